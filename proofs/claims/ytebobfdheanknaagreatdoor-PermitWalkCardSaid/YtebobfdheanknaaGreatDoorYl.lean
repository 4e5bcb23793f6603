/- Parts of the proof, from: The walks through package permit: a step of what is known, its reworks, what comes next. -/
import Derived.Test.YtebobfdheanknaaGreatDoorYk
import Derived.Test.YtebobfdheanknaaGreatDoorYe
import Derived.ArgAppend
import Derived.Test.YtebobfdheanknaaGreatDoorYc
import Derived.Test.YtebobfdheanknaaGreatDoorYf
namespace Go.Proofs.YtebobfdheanknaaGreatDoor
open Go Go.K
set_option maxRecDepth 10000
attribute [local irreducible] W WL cT cn bX bA bB bD cW cG
set_option maxHeartbeats 1000000
def jW:Step:=⟨0,[],0,0,[],0,0⟩
def gR(o:Option bV)(n:Int):Option Step:=o.bind fun f=>dA f.steps n
theorem D6(v:Value)(o:Option bV)(h:List bc)(n:Int)(g:G)(kn:FM g v o h):CallsIn Wd 0 Tryz.prog 130 #[v,.int .i64 n] g.w (cR g fun g' r=> ∃cs,r= .tuple #[.agg cs.toArray,.bool (gR o n).isSome]∧pB g' cs ((gR o n).getD jW)):=by
 have hs:=St.start g
 have aq:=G.le.refl g
 obtain⟨_,rfl,a1,n1,c1,a2,n2,c2,a3,c3,rfl,aT,bT,bN⟩:=kn
 refine enter Tryz.func130 rfl Tryz.ntmps130 rfl ?_
 apply c_
 refine an rfl rfl (aR rfl hs rfl rfl ?_);clear hs;rintro b2 g1 hs ah;replace aT:=aT.mono ah
 obtain⟨g2,bR,aU,ah,aL⟩:=hs.a_ (i:=0) rfl;replace hs:=aU;clear aU;rw[←bR];replace aT:=aT.mono ah
 have aC:=aL;clear aL
 skip
 refine an rfl rfl (aK T.ok rfl hs rfl rfl ?_);clear hs;rintro b4 g1 hs ah;obtain⟨aC,aT⟩:=cC ah aC aT
 refine ba rfl ?_;apply aB;refine dx 4 [.z aC] (St.start _) rfl ?_
 cases o with
 |none=>
  refine ba rfl ?_
  refine aJ rfl rfl ?_
  apply c_
  refine an rfl rfl (aQ T.ok rfl (vs:=[]) (cells:=[.int .i64 0,.slice none 0 0,.int .i64 0,.int .i64 0,.slice none 0 0,.int .i64 0,.int .i64 0]) rfl rfl rfl rfl [(0,1),(1,1),(2,1),(3,1),(4,1),(5,1),(6,1)] rfl (by kernel_rfl) ?_)
  refine bg rfl (aA T.ok 0 rfl hs rfl rfl rfl rfl rfl rfl rfl rfl rfl ?_);replace hs:=hs;rintro g1 hs ah;obtain⟨aC,aT⟩:=cC ah aC aT
  refine ba rfl ?_
  rw[show gR none n=none from rfl]
  exact aF (s7 T.ok 0 rfl hs rfl rfl rfl rfl (hs.ret ⟨_,rfl,none,0,0,none,0,0,rfl,Rs.nil _,Rs.nil _⟩))
 |some f=>
  obtain⟨_,_,e⟩:=aT.isSlice;obtain⟨rfl,rfl,rfl⟩:=Value.slice.inj e;clear e
  refine Wp 4 rfl ?_
  cases h1:decide (n<0)with
  |true=>
   have e:gR (some f) n=none:=if_pos (of_decide_eq_true h1)
   refine ba rfl ?_
   refine aJ rfl rfl ?_
   apply c_
   refine an rfl rfl (aQ T.ok rfl (vs:=[]) (cells:=[.int .i64 0,.slice none 0 0,.int .i64 0,.int .i64 0,.slice none 0 0,.int .i64 0,.int .i64 0]) rfl rfl rfl rfl [(0,1),(1,1),(2,1),(3,1),(4,1),(5,1),(6,1)] rfl (by kernel_rfl) ?_)
   refine bg rfl (aA T.ok 0 rfl hs rfl rfl rfl rfl rfl rfl rfl rfl rfl ?_);replace hs:=hs;rintro g1 hs ah;obtain⟨aC,aT⟩:=cC ah aC aT
   refine ba rfl ?_
   rw[e]
   exact aF (s7 T.ok 0 rfl hs rfl rfl rfl rfl (hs.ret ⟨_,rfl,none,0,0,none,0,0,rfl,Rs.nil _,Rs.nil _⟩))
  |false=>
   have h1:=of_decide_eq_false h1
   refine A3 [.z aC] (St.start _) rfl ?_
   by_cases h2:(f.steps.length:Int)≤n
   ·have e:gR (some f) n=none:=(if_neg h1).trans (List.getElem?_eq_none (by omega))
    refine aJ (b:=decide ((f.steps.length:Int)≤n)) (decide_eq_true h2) rfl ?_
    apply c_
    refine an rfl rfl (aQ T.ok rfl (vs:=[]) (cells:=[.int .i64 0,.slice none 0 0,.int .i64 0,.int .i64 0,.slice none 0 0,.int .i64 0,.int .i64 0]) rfl rfl rfl rfl [(0,1),(1,1),(2,1),(3,1),(4,1),(5,1),(6,1)] rfl (by kernel_rfl) ?_)
    refine bg rfl (aA T.ok 0 rfl hs rfl rfl rfl rfl rfl rfl rfl rfl rfl ?_);replace hs:=hs;rintro g1 hs ah;obtain⟨aC,aT⟩:=cC ah aC aT
    refine ba rfl ?_
    rw[e]
    exact aF (s7 T.ok 0 rfl hs rfl rfl rfl rfl (hs.ret ⟨_,rfl,none,0,0,none,0,0,rfl,Rs.nil _,Rs.nil _⟩))
   ·have bh:n.toNat<f.steps.length:=by omega
    have e:gR (some f) n=some f.steps[n.toNat]:=(if_neg h1).trans (List.getElem?_eq_getElem bh)
    refine aS (b:=decide ((f.steps.length:Int)≤n)) (decide_eq_false h2) rfl ?_
    rw[e]
    apply aE;apply au;refine dx 4 [.z aC] (St.start _) rfl ?_
    refine an rfl rfl (aW T.ok rfl aT (y:=f.steps[n.toNat]) e rfl rfl rfl rfl rfl rfl ?_)
    rintro b6 q6 ys aL eK
    obtain⟨a7,n7,c7,a8,n8,c8,rfl,h7,h8⟩:=eK
    have aP:=aL;clear aL
    refine Wm 1 [.e aP 0] (St.start _) rfl ?_
    refine bg rfl (aA T.ok 0 rfl hs rfl rfl rfl rfl rfl rfl rfl rfl rfl ?_);replace hs:=hs;rintro g1 hs ah
    replace h7:=h7.mono ah;replace h8:=h8.mono ah
    refine ba rfl ?_
    exact aF (s7 T.ok 0 rfl hs rfl rfl rfl rfl (hs.ret ⟨_,rfl,a7,n7,c7,a8,n8,c8,rfl,h7,h8⟩))
theorem D7(v:Value)(l:List Int)(n:Int)(g:G)(aH:Rs g v l):CallsIn Wd 0 Tryz.prog 265 #[v,.int .i64 n] g.w (cR g fun _ r=> ∃z:Int,r= .int .i64 z∧(decide (0≤z))=l.contains n):=by
 have hs:=St.start g
 obtain⟨a,c,rfl⟩:=aH.isSlice
 have hlen:=aH.dU
 unfold maxLen at hlen
 refine enter Tryz.func265 rfl Tryz.ntmps265 rfl ?_
 refine aX rfl ?_;apply aB;refine aX rfl ?_;apply aG
 refine bS (fun m a' w=> ∃(i:Nat),w=g.w∧i≤l.length∧(l.take i).contains n=false∧m=l.length-i∧
   Fr 19 [] [(0,.slice a l.length c),(1,.int .i64 n),(7,.int .i64 (l.length:Nat)),(8,.int .i64 (i:Nat))] a') l.length
  (fun a' ha=>⟨0,rfl,Nat.zero_le _,by simp,rfl,ha.keep (by(repeat (first|exact trivial|refine⟨rfl,?_⟩)))⟩) ?_
 rintro m a' _ ⟨i,rfl,hi,dy,rfl,eI⟩
 revert a'
 apply cQ;refine aX rfl ?_;apply aB
 by_cases bh:i<l.length
 ·refine aJ (b:=decide ((i:Int)<(l.length:Int))) (decide_eq_true (by omega)) rfl ?_
  have ic:dA l (i:Int)=some l[i]:=cU rfl bh
  have cB:l.take (i+1)=l.take i++[l[i]]:=by rw[List.take_add_one,List.getElem?_eq_getElem bh];rfl
  have qQ:l[i]∈l:=List.getElem_mem bh
  generalize l[i]=x at*
  apply aE;apply au;apply aB;apply aG;refine aX rfl ?_;refine cP 3 rfl ?_
  refine an rfl rfl (aW T.ok rfl aH (y:=x) ic rfl rfl rfl rfl rfl rfl ?_)
  rintro b p ys aL eK
  obtain rfl:ys=[.int .i64 x]:=eK
  have aC:=aL
  refine A3 [.e aC 0] (St.start _) rfl ?_
  by_cases hx:n=x
  ·subst hx
   refine aJ (b:=n==n) (by simp) rfl ?_
   refine aX rfl ?_
   exact aF (aV rfl rfl (hs.ret ⟨_,rfl,by simp[qQ]⟩))
  ·refine aS (b:=n==x) (by simp[hx]) rfl ?_
   apply aE;apply bU;apply au;apply ar;refine Wp 2 rfl ?_;apply aD
   exact fun a ha=>⟨l.length-(i+1),by omega,i+1,rfl,by omega,by rw[cB];simp at dy⊢;exact⟨dy,hx⟩,rfl,ha.keep ⟨rfl,rfl,rfl,kI rfl (by rw[wr (by omega) (by omega)];omega),trivial⟩⟩
 ·refine aS (b:=decide ((i:Int)<(l.length:Int))) (decide_eq_false (by omega)) rfl ?_
  rw[List.take_of_length_le (by omega)]at dy
  apply bE;apply bK;apply bK;apply dc;apply au;refine aX rfl ?_
  exact aF (aV rfl rfl (hs.ret ⟨-1,rfl,dy.symm⟩))
theorem nb(v:Value)(l:List Int)(n:Int)(g:G)(aH:Rs g v l):CallsIn Wd 0 Tryz.prog 206 #[v,.int .i64 n] g.w (cR g fun _ r=>r= .bool (l.contains n)):=by
 have hs:=St.start g
 refine enter Tryz.func206 rfl Tryz.ntmps206 rfl ?_
 refine aX rfl ?_;refine cP 2 rfl ?_
 refine an rfl rfl (ay MF aI rfl rfl rfl rfl rfl (D7 _ l n _ aH) ?_);rintro g1 _ aN ⟨z,rfl,hz⟩;replace hs:=hs.call aN;have ah:=aN.le
 refine ba rfl ?_
 exact aF (aV rfl rfl (hs.ret (congrArg Value.bool hz)))
def FN(h:List bc)(n back:Int)(i:Nat):Bool:=(h.getD i gF).step==n&&(h.getD (i+1) gF).step==back
def uQ(o:Option bV)(h:List bc)(n:Int):Int:=
 if((gR o n).getD jW).next.contains ((gR o n).getD jW).back then 0 else(((List.range (h.length-1)).filter (FN h n ((gR o n).getD jW).back)).length:Nat)
theorem Nj(v:Value)(o:Option bV)(h:List bc)(n:Int)(g:G)(kn:FM g v o h)(hl:h.length≤1000000):CallsIn Wd 0 Tryz.prog 132 #[v,.int .i64 n] g.w (cR g fun _ r=>r= .int .i64 (uQ o h n)):=by
 have hs:=St.start g
 have aq:=G.le.refl g
 obtain⟨_,rfl,a1,n1,c1,a2,n2,c2,a3,c3,rfl,aT,bT,bN⟩:=kn
 refine enter Tryz.func132 rfl Tryz.ntmps132 rfl ?_
 apply c_
 refine an rfl rfl (aR rfl hs rfl rfl ?_);clear hs;rintro b2 g1 hs ah;obtain⟨aq,aT,bT,bN⟩:=dE ah aq aT bT bN
 obtain⟨g2,bR,aU,ah,aL⟩:=hs.a_ (i:=0) rfl;replace hs:=aU;clear aU;rw[←bR];obtain⟨aq,aT,bT,bN⟩:=dE ah aq aT bT bN
 have aC:=aL;clear aL
 refine ba rfl ?_;refine aX rfl ?_;refine dx 2 [.z aC] (St.start _) rfl ?_
 refine an rfl rfl (ay De aI rfl rfl rfl rfl rfl (D6 _ o h n _ ⟨_,rfl,a1,n1,c1,a2,n2,c2,a3,c3,rfl,aT,bT,bN⟩) ?_)
 rintro g6 _ mY ⟨cs,rfl,dm⟩
 replace hs:=hs.call mY;have ah:=mY.le;obtain⟨aq,aC,bN⟩:=ef ah aq aC bN
 unfold uQ
 generalize(gR o n).getD jW=s at*
 obtain⟨a7,n7,c7,a8,n8,c8,rfl,eg,fq⟩:=dm
 clear aT bT mY
 refine Wp 3 rfl ?_
 refine an rfl rfl (aK T.ok rfl hs rfl rfl ?_);clear hs;rintro b6 g1 hs ah;obtain⟨aq,aC,bN,fq⟩:=dE ah aq aC bN fq
 skip
 refine bg rfl (aA T.ok 0 rfl hs rfl rfl rfl rfl rfl rfl rfl rfl rfl ?_);replace hs:=hs;rintro g1 hs ah;obtain⟨aq,aC,bN,fq⟩:=dE ah aq aC bN fq
 obtain⟨g2,bR,aU,ah,aL⟩:=hs.a_ (i:=0) rfl;replace hs:=aU;clear aU;rw[←bR];obtain⟨aq,aC,bN,fq⟩:=dE ah aq aC bN fq
 have aP:=aL;clear aL
 refine ba rfl ?_;apply aB;refine dx 4 [.z aP,.z aP] (St.start _) rfl ?_
 refine an rfl rfl (ay Dg aI rfl rfl rfl rfl rfl (nb _ s.next s.back _ fq) ?_);rintro g1 _ aN rfl;replace hs:=hs.call aN;have ah:=aN.le;obtain⟨aq,aC,aP,bN⟩:=dE ah aq aC aP bN
 clear aN eg fq
 apply cf
 cases s.next.contains s.back with
 |true=>
  refine aJ rfl rfl ?_
  refine aX rfl ?_
  exact aF (aV rfl rfl (hs.ret rfl))
 |false=>
  refine aS rfl rfl ?_
  apply aE;apply au;apply aB;refine aX rfl ?_;apply aG
  refine bS (fun m a' w=> ∃(k q:Nat) (g':G),w=g'.w∧St g g' []∧G.le g g'∧Rs g' (.slice a3 h.length c3) h∧EP g' b2 0 [.int .i64 (o.getD tg).ck,.int .i64 (o.getD tg).cu,.slice a1 n1 c1,.slice a2 n2 c2,.bool o.isSome,.slice a3 h.length c3]∧EP g' b6 0 [.int .i64 s.dD,.slice a7 n7 c7,.int .i64 s.min,.int .i64 s.max,.slice a8 n8 c8,.int .i64 s.back,.int .i64 s.dF]∧(k+1≤h.length∨k=0)∧q=((List.range k).filter (FN h n s.back)).length∧m=h.length-k∧
    Fr 50 [] [(1,.int .i64 n),(2,.pointer (some ⟨b2,0,none⟩)),(5,.int .i64 (q:Nat)),(6,.pointer (some ⟨b6,0,none⟩)),(8,.int .i64 (k+1:Nat))] a') h.length
   (fun a' ha=>⟨0,0,_,rfl,hs,aq,bN,aC,aP,.inr rfl,rfl,rfl,ha.keep (by(repeat (first|exact trivial|refine⟨rfl,?_⟩)))⟩) ?_
  (repeat clear hs);(repeat clear bN);(repeat clear aq);(repeat clear aC);(repeat clear aP)
  rintro m a' _ ⟨k,q,g',rfl,hs,aq,bN,aC,aP,hk,hq,rfl,eI⟩
  have Ue:q≤k:=by rw[hq];exact Nat.le_trans (List.length_filter_le ..) (by rw[List.length_range];omega)
  revert a'
  apply cQ;apply aB;refine nK [.z aC] (St.start _) rfl ?_
  by_cases bh:k+1<h.length
  ·refine aJ (b:=decide (((k+1:Nat):Int)<(h.length:Int))) (by simp;omega) rfl ?_
   apply aE;apply au;apply aB;apply aG;apply aB
   obtain⟨b0,p0,ys,rfl,SD,hx⟩:=bN.at (i:=k) (List.getElem?_eq_getElem (by omega))
   obtain⟨Qy,Qz,Kw,e,Uf,hy⟩:=bN.at (i:=k+1) (List.getElem?_eq_getElem bh)
   obtain⟨rfl,rfl⟩:b0=Qy∧p0=Qz:=by simpa using e
   clear e
   have jn:((List.range (k+1)).filter (FN h n s.back)).length=q+(if h[k].step==n&&h[k+1].step==s.back then 1 else 0):=by
    rw[List.range_succ,List.filter_append,List.length_append,←hq]
    congr 1
    have e:FN h n s.back k=(h[k].step==n&&h[k+1].step==s.back):=by
     unfold FN
     rw[List.getD_eq_getElem?_getD,List.getD_eq_getElem?_getD,List.getElem?_eq_getElem (by omega),List.getElem?_eq_getElem bh];rfl
    rw[List.filter_cons,e]
    split<;>rfl
   generalize h[k]=x at hx jn
   generalize h[k+1]=y at hy jn
   obtain rfl:ys=bW x:=hx
   obtain rfl:Kw=bW y:=hy
   clear hq
   cases h1:x.step==n with
   |false=>
    rw[h1]at jn
    apply bO hs (eJ (fe (.e (.int .i64 (k:Nat))::gE (.e (.bool false)::fj (eJ (fe [])))))) 20 [(19,46)] (by kernel_rfl) rfl
    ·refine Dm [[],[0],[]] [.z aC] hs (by kernel_rfl) rfl ?_
     refine aw (ak (js:=[(2,29)]) (by kernel_rfl) fun gd hf=>ai rfl (aj (az rfl (aM _ T.ok rfl ⟨gd,rfl,aZ.refl _,congrArg (Value.int .i64) (by rw[wr (by omega) (by omega)];omega)⟩)))) ?_
     refine aw (ak (js:=[(1,28),(3,30)]) (by kernel_rfl) fun gd hf=>ai rfl (ai rfl (aj (az rfl (fT T.ok rfl rfl rfl (by omega) (by omega) rfl rfl rfl ⟨gd,rfl,aZ.refl _,rfl⟩))))) ?_
     refine Dm [[4],[5],[]] [.e SD 13] hs (by kernel_rfl) rfl ?_
     refine aw (ak (js:=[(6,33),(7,34)]) (by kernel_rfl) fun gd hf=>ai rfl (ai rfl (aj (az rfl (aM _ T.ok rfl ⟨gd,rfl,aZ.refl _,congrArg Value.bool h1⟩))))) ?_
     exact Dz [[8],[9],[10,9],[9],[11,12,9],[13,9],[14,9],[9],[16,9],[15,17,9],[9,18]] [] hs (by kernel_rfl) rfl
    clear hs;intro g6 hs ah;obtain⟨aq,aC,aP,bN⟩:=dE ah aq aC aP bN
    apply cf
    refine aS rfl rfl ?_
    apply aE;apply bU;apply au;apply ar;refine Wp 3 rfl ?_;apply aD
    exact fun a ha=>⟨h.length-(k+1),by omega,k+1,q,_,rfl,hs,aq,bN,aC,aP,.inl (by omega),jn.symm,rfl,ha.keep ⟨rfl,rfl,rfl,rfl,kI rfl (by rw[wr (by omega) (by omega)];omega),trivial⟩⟩
   |true=>
    rw[h1]at jn
    apply bO hs (eJ (fe (.e (.int .i64 (k:Nat))::gE (.e (.bool true)::fj (eJ (fe [])))))) 20 [(19,46)] (by kernel_rfl) rfl
    ·refine Dm [[],[0],[]] [.z aC] hs (by kernel_rfl) rfl ?_
     refine aw (ak (js:=[(2,29)]) (by kernel_rfl) fun gd hf=>ai rfl (aj (az rfl (aM _ T.ok rfl ⟨gd,rfl,aZ.refl _,congrArg (Value.int .i64) (by rw[wr (by omega) (by omega)];omega)⟩)))) ?_
     refine aw (ak (js:=[(1,28),(3,30)]) (by kernel_rfl) fun gd hf=>ai rfl (ai rfl (aj (az rfl (fT T.ok rfl rfl rfl (by omega) (by omega) rfl rfl rfl ⟨gd,rfl,aZ.refl _,rfl⟩))))) ?_
     refine Dm [[4],[5],[]] [.e SD 13] hs (by kernel_rfl) rfl ?_
     refine aw (ak (js:=[(6,33),(7,34)]) (by kernel_rfl) fun gd hf=>ai rfl (ai rfl (aj (az rfl (aM _ T.ok rfl ⟨gd,rfl,aZ.refl _,congrArg Value.bool h1⟩))))) ?_
     refine Dm [[8],[9],[10,9],[9]] [.z aC] hs (by kernel_rfl) rfl ?_
     refine aw (ak (js:=[(11,38),(12,39),(9,36)]) (by kernel_rfl) fun gd hf=>ai rfl (ai rfl (ai rfl (aj (az rfl (fT T.ok rfl rfl rfl (by omega) (by omega) rfl rfl rfl ⟨gd,rfl,aZ.refl _,rfl⟩)))))) ?_
     exact Dz [[13,9],[14,9],[9],[16,9],[15,17,9],[9,18]] [.e Uf 13,.z aP] hs (by kernel_rfl) rfl
    clear hs;intro g6 hs ah;obtain⟨aq,aC,aP,bN⟩:=dE ah aq aC aP bN
    apply cf
    cases h2:y.step==s.back with
    |false=>
     rw[h2]at jn
     refine aS rfl rfl ?_
     apply aE;apply bU;apply au;apply ar;refine Wp 3 rfl ?_;apply aD
     exact fun a ha=>⟨h.length-(k+1),by omega,k+1,q,_,rfl,hs,aq,bN,aC,aP,.inl (by omega),jn.symm,rfl,ha.keep ⟨rfl,rfl,rfl,rfl,kI rfl (by rw[wr (by omega) (by omega)];omega),trivial⟩⟩
    |true=>
     rw[h2]at jn
     refine aJ rfl rfl ?_
     apply ar;refine Wp 3 rfl ?_;apply aD;apply bU;apply au;apply ar;refine Wp 3 rfl ?_;apply aD
     exact fun a ha=>⟨h.length-(k+1),by omega,k+1,q+1,_,rfl,hs,aq,bN,aC,aP,.inl (by omega),jn.symm,rfl,ha.keep ⟨rfl,rfl,kI rfl (by rw[wr (by omega) (by omega)];omega),rfl,kI rfl (by rw[wr (by omega) (by omega)];omega),trivial⟩⟩
  ·refine aS (b:=decide (((k+1:Nat):Int)<(h.length:Int))) (by simp;omega) rfl ?_
   apply bE;apply bK;apply bK;apply dc;apply au;refine aX rfl ?_
   refine aF (aV rfl rfl (hs.ret ?_))
   rw[hq,show k=h.length-1 from by omega];rfl
end Go.Proofs.YtebobfdheanknaaGreatDoor
namespace Go.Proofs.YtebobfdheanknaaGreatDoor
open Go Go.K
set_option maxRecDepth 10000
attribute [local irreducible] W WL cT cn bX bA bB bD cW cG
set_option maxHeartbeats 1000000
theorem nO{ad:Option Addr}{n c:Nat}{zs:List Int}{g0 g:G}{L:List cV}(hs:St g0 g (.row 3 1 (.slice ad n c) n (eB zs)::L)):
  CallsIn Wd 0 Tryz.prog 50 #[.slice ad n c] g.w
   (eu g fun g' r=>r= .slice ad (Lib.compact zs).length c∧St g0 g' (.row 3 1 (.slice ad (Lib.compact zs).length c) (Lib.compact zs).length (eB (Lib.compact zs))::L)):=by
 have hr:=hs.own 0 _ rfl
 by_cases h0:n=0
 ·subst h0
  have hz:zs=[]:=by
   have:=hr.1.1
   rw[lO,Nat.zero_mul]at this
   exact List.eq_nil_of_length_eq_zero this
  subst hz
  refine callsIn_wide.2 ((Tryz.slices_Compact_int_empty ad c g.w).mono ?_)
  rintro e w' ⟨rfl,rfl⟩
  exact⟨g,_,rfl,rfl,G.le.refl g,rfl,hs⟩
 ·obtain⟨bk,off,rfl⟩:=hr.1.pos h0
  obtain⟨hH,zQ,rfl,nd,oJ⟩:=hr.1.D8 h0
  unfold maxLen at oJ
  have fY:=Lib.compact_length_le zs
  refine callsIn_wide.2 ((Tryz.slices_Compact_int bk off c zs g.w hH (by omega) nd).mono ?_)
  rintro e w' ⟨rfl,q,rfl⟩
  obtain⟨g2,bR,aU,ah⟩:=hs.putRow (i:=0) (q:=q) (os:=#[]) (d:=Lib.compact zs++List.replicate (zs.length-(Lib.compact zs).length) 0) rfl h0 (by simp;omega)
  have tf:=aU.x9 (i:=0) (a:=(Lib.compact zs).length) rfl fY
  rw[if_neg (by omega),Option.map_some,Addr.add_lit,Nat.zero_mul,Nat.add_zero,Nat.sub_zero,Nat.sub_zero]at tf
  refine⟨g2,_,bR,rfl,ah,rfl,?_⟩
  have e:(eB (Lib.compact zs++List.replicate (zs.length-(Lib.compact zs).length) 0)).take ((Lib.compact zs).length*1)=eB (Lib.compact zs):=by
   unfold eB
   rw[Nat.mul_one,List.map_append,show(Lib.compact zs).length=((Lib.compact zs).map (Value.int .i64)).length from by simp,List.take_left]
  rw[←e]
  exact tf
def uR(o:Option bV)(h:List bc)(n:Int)(s:Step):List Int:=
 Lib.compact (if 0≤s.back∧uQ o h n<s.dF then jJ (s.next++[s.back])else s.next)
def wH(o:Option bV)(h:List bc):List Int:=
 if o.isSome=false then []else if h=[]then [0]else match gR o (h.getLast?.getD gF).step with
  |none=>[]
  |some s=>uR o h (h.getLast?.getD gF).step s
def OV(o:Option bV):Prop:=∀f,o=some f→ ∀s∈f.steps,s.next.length≤100000
theorem D9(v:Value)(o:Option bV)(h:List bc)(g:G)(kn:FM g v o h)(hl:h.length≤1000000)(ho:OV o):CallsIn Wd 0 Tryz.prog 58 #[v] g.w (cR g fun g' r=>Rs g' r (wH o h)):=by
 have hs:=St.start g
 have aq:=G.le.refl g
 have lP:=kn
 obtain⟨_,rfl,a1,n1,c1,a2,n2,c2,a3,c3,rfl,aT,bT,bN⟩:=kn
 refine enter Tryz.func58 rfl Tryz.ntmps58 rfl ?_
 apply c_
 refine an rfl rfl (aR rfl hs rfl rfl ?_);clear hs;rintro b1 g1 hs ah;obtain⟨aq,bN⟩:=cC ah aq bN
 obtain⟨g2,bR,aU,ah,aL⟩:=hs.a_ (i:=0) rfl;replace hs:=aU;clear aU;rw[←bR];obtain⟨aq,bN⟩:=cC ah aq bN
 have aC:=aL;clear aL
 replace lP:=lP.mono aq
 refine ba rfl ?_;apply aB;apply aG;refine nK [.z aC] (St.start _) rfl ?_
 unfold wH
 cases Nk:o.isSome with
 |false=>
  rw[if_pos rfl]
  refine aJ rfl rfl ?_
  refine aX rfl ?_
  exact aF (aV rfl rfl (hs.ret (Rs.nil _)))
 |true=>
  rw[if_neg (by simp)]
  rw[Nk]at aC lP
  refine aS rfl rfl ?_
  refine nK [.z aC] (St.start _) rfl ?_
  rcases List.eq_nil_or_concat h with rfl|⟨hi,x,rfl⟩
  ·rw[if_pos rfl]
   refine aJ (b:=(([]:List bc).length:Int)==0) rfl rfl ?_
   apply c_
   refine an rfl rfl (bj T.ok rfl hs (vs:=[(0,.int .i64 ((0:Int)))]) (cells:=[.int .i64 ((0:Int))]) rfl rfl rfl rfl rfl rfl (by decide) (by decide) (by kernel_rfl) rfl ?_);rintro bl gl hs ah;obtain⟨aC,bN⟩:=cC ah aC bN;obtain⟨gz,ik,cS,iT,eg⟩:=hs.cL (α:=Int) (xs:=[(0:Int)]) (i:=0) rfl (cO.ints _ [(0:Int)]);clear ah;have ah:=iT;rw[←ik];replace hs:=cS;clear cS;obtain⟨aC,bN⟩:=cC ah aC bN
   refine ba rfl ?_
   exact aF (aV rfl rfl (hs.ret eg))
  ·rw[List.concat_eq_append]at*
   rw[if_neg (by simp),List.getLast?_concat]
   show W _ _ _ _ _ _ _ _
   refine aS (b:=((hi++[x]).length:Int)==0) (by simp;omega) rfl ?_
   have x_:(hi++[x]).length=hi.length+1:=by simp
   have ic:dA (hi++[x]) (IntKind.i64.wrap (((hi++[x]).length:Nat)-1))=some x:=by
    rw[wr (by omega) (by omega),x_,show((hi.length+1:Nat):Int)-1=(hi.length:Nat)from by omega]
    unfold dA;rw[if_neg (by omega)];simp
   apply aE;apply bU;apply au;refine dx 6 [.z aC,.z aC] (St.start _) rfl ?_
   refine an rfl rfl (aW T.ok rfl bN (y:=x) ic rfl rfl rfl rfl rfl rfl ?_)
   rintro b9 q9 ys aL rfl
   refine Wp 1 rfl ?_
   refine Wm 1 [.e aL 13] (St.start _) rfl ?_
   clear aL
   refine ba rfl ?_;refine dx 2 [.z aC] (St.start _) rfl ?_
   refine an rfl rfl (ay De aI rfl rfl rfl rfl rfl (D6 _ o (hi++[x]) x.step _ lP) ?_)
   rintro g6 _ mY ⟨cs,rfl,dm⟩
   replace hs:=hs.call mY;have ah:=mY.le;replace aC:=aC.mono ah
   replace lP:=lP.mono ah
   show WL _ _ _ _ _ _ _ _ _
   simp only[Option.getD_some]
   cases QB:gR o x.step with
   |none=>
    rw[QB]at dm
    obtain⟨a7,n7,c7,a8,n8,c8,rfl,eg,fq⟩:=dm
    refine Wp 3 rfl ?_
    refine an rfl rfl (aK T.ok rfl hs rfl rfl ?_);clear hs;rintro b4 g1 hs ah;obtain⟨aC,eg,fq⟩:=ef ah aC eg fq
    skip
    refine bg rfl (aA T.ok 0 rfl hs rfl rfl rfl rfl rfl rfl rfl rfl rfl ?_);replace hs:=hs;rintro g1 hs ah;obtain⟨aC,eg,fq⟩:=ef ah aC eg fq
    refine ba rfl ?_;apply aB;refine aX rfl ?_
    refine aJ rfl rfl ?_
    refine aX rfl ?_
    exact aF (aV rfl rfl (hs.ret (Rs.nil _)))
   |some s=>
    rw[QB]at dm
    replace dm:pB g6 cs s:=dm
    obtain⟨a7,n7,c7,a8,n8,c8,rfl,eg,fq⟩:=dm
    have FJ:s.next.length≤100000:=by
     cases o with
     |none=>cases Nk
     |some f=>exact ho f rfl s (List.mem_of_getElem? (qS QB).2.2)
    refine Wp 3 rfl ?_
    refine an rfl rfl (aK T.ok rfl hs rfl rfl ?_);clear hs;rintro b4 g1 hs ah;obtain⟨aC,fq⟩:=cC ah aC fq
    replace lP:=lP.mono ah
    skip
    refine bg rfl (aA T.ok 0 rfl hs rfl rfl rfl rfl rfl rfl rfl rfl rfl ?_);replace hs:=hs;rintro g1 hs ah;obtain⟨aC,fq⟩:=cC ah aC fq
    replace lP:=lP.mono ah
    obtain⟨g2,bR,aU,ah,aL⟩:=hs.a_ (i:=0) rfl;replace hs:=aU;clear aU;rw[←bR];obtain⟨aC,fq⟩:=cC ah aC fq
    replace lP:=lP.mono ah
    have aP:=aL;clear aL
    refine ba rfl ?_;apply aB;refine aX rfl ?_
    refine aS rfl rfl ?_
    apply aE;apply au;refine dx 2 [.z aP] (St.start _) rfl ?_
    clear mY
    refine an rfl rfl (ay HD aI rfl rfl rfl rfl rfl (Bb _ s.next _ fq (by omega)) ?_)
    rintro g7 v7 uM ⟨cells,hh,hr⟩
    obtain rfl:cells=eB s.next:=cO.pH hr
    obtain⟨a5,c5,rfl⟩:=hh.1.form
    replace hs:=hs.gJ uM hh;have ah:=uM.le;obtain⟨aC,aP⟩:=cC ah aC aP
    replace lP:=lP.mono ah
    clear hr hh uM
    replace hs:St g g7 [.row 3 1 (.slice a5 s.next.length c5) s.next.length (eB s.next)]:=hs
    clear eg fq aT bT bN ic
    refine ba rfl ?_;apply aB;apply aB
    cases Bc:decide (0≤s.back)with
    |false=>
     have Je:uR o (hi++[x]) x.step s=Lib.compact s.next:=by unfold uR;rw[if_neg (fun e=>(of_decide_eq_false Bc) e.1)]
     apply bO hs (eJ (.e (.bool false)::fj [])) 11 [(10,47)] (by kernel_rfl) rfl
     ·refine Dm [[],[0]] [.z aP] hs (by kernel_rfl) rfl ?_
      refine aw (ak (js:=[(1,38)]) (by kernel_rfl) fun gd hf=>ai rfl (aj (az rfl (aM _ T.ok rfl ⟨gd,rfl,aZ.refl _,congrArg Value.bool Bc⟩)))) ?_
      exact Dz [[2],[3],[3],[4,5,3,3],[3],[7,3],[6,8,3],[3,9]] [] hs (by kernel_rfl) rfl
     clear hs;intro g8 hs ah;obtain⟨aC,aP⟩:=cC ah aC aP
     apply cf
     refine aS rfl rfl ?_
     apply aE;apply au;refine cP 1 rfl ?_
     refine an rfl rfl (dv SI aI rfl rfl rfl rfl rfl (nO (zs:=s.next) hs) ?_)
     (repeat clear hs)
     rintro g12 _ ah ⟨rfl,hs⟩;obtain⟨aC,aP⟩:=cC ah aC aP
     obtain⟨g13,pI,pJ,ah,py⟩:=hs.cL (α:=Int) (i:=0) rfl (cO.ints _ _)
     rw[←pI];(repeat clear hs);have hs:=pJ;clear pJ;obtain⟨aC,aP⟩:=cC ah aC aP;clear pI
     refine ba rfl ?_
     exact aF (aV rfl rfl (hs.ret (show Rs _ _ (uR o (hi++[x]) x.step s)from by rw[Je];exact py)))
    |true=>
     apply bO hs (eJ (.e (.bool true)::fj [])) 11 [(10,47)] (by kernel_rfl) rfl
     ·refine Dm [[],[0]] [.z aP] hs (by kernel_rfl) rfl ?_
      refine aw (ak (js:=[(1,38)]) (by kernel_rfl) fun gd hf=>ai rfl (aj (az rfl (aM _ T.ok rfl ⟨gd,rfl,aZ.refl _,congrArg Value.bool Bc⟩)))) ?_
      exact Dz [[2],[3],[3],[4,5,3,3],[3],[7,3],[6,8,3],[3,9]] [.z aC,.c Lu fun g' h=>Nj _ o (hi++[x]) x.step g' (lP.mono h) hl,.z aP] hs (by kernel_rfl) rfl
     clear hs;intro g8 hs ah;replace aP:=aP.mono ah
     apply cf
     cases Ia:decide (uQ o (hi++[x]) x.step<s.dF)with
     |false=>
      have Je:uR o (hi++[x]) x.step s=Lib.compact s.next:=by unfold uR;rw[if_neg (fun e=>(of_decide_eq_false Ia) e.2)]
      refine aS rfl rfl ?_
      apply aE;apply au;refine cP 1 rfl ?_
      refine an rfl rfl (dv SI aI rfl rfl rfl rfl rfl (nO (zs:=s.next) hs) ?_)
      (repeat clear hs)
      rintro g12 _ ah ⟨rfl,hs⟩;replace aP:=aP.mono ah
      obtain⟨g13,pI,pJ,ah,py⟩:=hs.cL (α:=Int) (i:=0) rfl (cO.ints _ _)
      rw[←pI];(repeat clear hs);have hs:=pJ;clear pJ;replace aP:=aP.mono ah;clear pI
      refine ba rfl ?_
      exact aF (aV rfl rfl (hs.ret (show Rs _ _ (uR o (hi++[x]) x.step s)from by rw[Je];exact py)))
     |true=>
      have Je:uR o (hi++[x]) x.step s=Lib.compact (jJ (s.next++[s.back])):=by unfold uR;rw[if_pos ⟨of_decide_eq_true Bc,of_decide_eq_true Ia⟩]
      refine aJ rfl rfl ?_
      refine dx 3 [.z aP] (St.start _) rfl ?_
      refine an rfl rfl (bj T.ok rfl hs (vs:=[(0,.int .i64 s.back)]) (cells:=[.int .i64 s.back]) rfl rfl rfl rfl rfl rfl (by decide) (by decide) (by kernel_rfl) rfl ?_);rintro b6 g9 hs ah
      skip
      refine an rfl rfl (b_ T.ok 1 rfl hs rfl rfl rfl rfl rfl rfl rfl (by decide) rfl (Src.gK (hs.own 0 _ rfl).1).2 (by simp[Value.oneCell']) (by show(s.next.length+1)*8≤_;omega) (by unfold maxLen;omega) ?_);rintro a6 c6 g10 hs ah
      replace hs:St g g10 [.row 3 1 (.slice a6 (s.next.length+1) c6) (s.next.length+1) (eB (s.next++[s.back]))]:=by
       have:=hs.drop 0
       have e:eB (s.next++[s.back])=eB s.next++[.int .i64 s.back]:=by simp[eB]
       rw[e];exact this
      refine ba rfl ?_;apply ar;refine Wp 1 rfl ?_
      refine an rfl rfl (dv IU aI rfl rfl rfl rfl rfl (zR (zs:=s.next++[s.back]) (by simp;omega) hs) ?_)
      (repeat clear hs)
      rintro g11 _ ah ⟨rfl,hs⟩
      apply cf;refine cP 1 rfl ?_
      refine an rfl rfl (dv SI aI rfl rfl rfl rfl rfl (nO (zs:=jJ (s.next++[s.back])) hs) ?_)
      (repeat clear hs)
      rintro g12 _ ah ⟨rfl,hs⟩
      obtain⟨g13,pI,pJ,ah,py⟩:=hs.cL (α:=Int) (i:=0) rfl (cO.ints _ _)
      rw[←pI];(repeat clear hs);have hs:=pJ;clear pJ;clear pI
      refine ba rfl ?_
      exact aF (aV rfl rfl (hs.ret (show Rs _ _ (uR o (hi++[x]) x.step s)from by rw[Je];exact py)))
end Go.Proofs.YtebobfdheanknaaGreatDoor
namespace Go.Proofs.YtebobfdheanknaaGreatDoor
open Go Go.K
set_option maxRecDepth 10000
attribute [local irreducible] W WL cT cn bX bA bB bD cW cG
set_option maxHeartbeats 1000000
theorem Nl(b5:Nat)(kc:List Value)(o:Option bV)(h:List bc)(g:G)(aC:EP g b5 0 kc)(kn:Kv g kc o h):CallsIn Wd 0 Tryz.prog 204 #[.pointer (some ⟨b5,0,none⟩)] g.w (cR g fun _ r=>r= .bool (!o.isSome)):=by
 have hs:=St.start g
 obtain⟨a1,n1,c1,a2,n2,c2,a3,c3,rfl,aT,bT,bN⟩:=kn
 refine enter Tryz.func204 rfl Tryz.ntmps204 rfl ?_
 refine aX rfl ?_;refine nK [.z aC] (St.start _) rfl ?_
 exact aF (aV rfl rfl (hs.ret rfl))
theorem Nn(b5 b4:Nat)(kc:List Value)(o:Option bV)(h:List bc)(a:fD)(g:G)(aC:EP g b5 0 kc)(aP:EP g b4 0 (pE a))(kn:Kv g kc o h)(hl:h.length≤1000000)(ho:OV o):
  CallsIn Wd 0 Tryz.prog 205 #[.pointer (some ⟨b5,0,none⟩),.pointer (some ⟨b4,0,none⟩)] g.w (cR g fun _ r=>r= .bool (o.isSome&& !(wH o h).contains a.step)):=by
 have hs:=St.start g
 have aq:=G.le.refl g
 have lP:FM g (.agg kc.toArray) o h:=⟨kc,rfl,kn⟩
 obtain⟨a1,n1,c1,a2,n2,c2,a3,c3,rfl,aT,bT,bN⟩:=kn
 refine enter Tryz.func205 rfl Tryz.ntmps205 rfl ?_
 refine aX rfl ?_;apply aB
 cases Nk:o.isSome with
 |false=>
  rw[Nk]at aC lP
  apply bO hs (fj (eJ [])) 10 [(9,12)] (by kernel_rfl) rfl
  ·exact Dz [[],[0],[1],[2],[3,2,2],[2],[5,2],[4,6,4,2],[7,2],[2,8]] [.z aC] hs (by kernel_rfl) rfl
  clear hs;intro g6 hs ah;obtain⟨aC,aP⟩:=cC ah aC aP
  refine ba rfl ?_
  exact aF (aV rfl rfl (hs.ret rfl))
 |true=>
  rw[Nk]at aC lP
  apply bO hs (gE (.f (Fact.rs (wH o h))::gE (fe []))) 10 [(9,12)] (by kernel_rfl) rfl
  ·refine Dm [[],[0],[1],[2]] [.z aC,.z aC] hs (by kernel_rfl) rfl ?_
   refine aw (ak (js:=[(3,6),(2,5),(2,5)]) (by kernel_rfl) fun gd hf=>ai rfl (ai rfl (ai rfl (aj (az rfl (ay K0 aI rfl rfl rfl rfl rfl (D9 _ o h gd (lP.mono ((G.bJ _).trans hf.le)) hl ho) fun g' v h1 h2=>⟨g',rfl,h1,h2⟩)))))) ?_
   refine Dm [[2],[5,2]] [.z aP] hs (by kernel_rfl) rfl ?_
   refine aw (ak (js:=[(4,7),(6,9),(4,7),(2,5)]) (by kernel_rfl) fun gd hf=>aY fun _ _=>ai rfl (aY fun v4 h4=>ai rfl (aj (az rfl (ay Dg aI rfl rfl rfl rfl rfl (nb v4 (wH o h) a.step gd h4) fun g' v h1 h2=>⟨g',rfl,h1,h2⟩))))) ?_
   exact Dz [[7,2],[2,8]] [] hs (by kernel_rfl) rfl
  clear hs;intro g6 hs ah
  refine ba rfl ?_
  exact aF (aV rfl rfl (hs.ret rfl))
theorem No(b8 b7 b4:Nat)(is:Bool)(cs:List Value)(s:Step)(a:fD)(g:G)(aC:EP g b8 0 [.bool is])(aP:EP g b7 0 cs)(dO:EP g b4 0 (pE a))(dm:pB g cs s):
  CallsIn Wd 0 Tryz.prog 207 #[.pointer (some ⟨b8,0,none⟩),.pointer (some ⟨b7,0,none⟩),.pointer (some ⟨b4,0,none⟩)] g.w (cR g fun _ r=>r= .bool (is&& !s.dB.contains a.tool)):=by
 have hs:=St.start g
 have aq:=G.le.refl g
 obtain⟨a7,n7,c7,a8,n8,c8,rfl,eg,fq⟩:=dm
 refine enter Tryz.func207 rfl Tryz.ntmps207 rfl ?_
 cases is with
 |false=>
  refine aX rfl ?_;refine nK [.z aC] (St.start _) rfl ?_
  exact aF (aV rfl rfl (hs.ret rfl))
 |true=>
  refine aX rfl ?_;refine dx 6 [.z aC,.z aP,.z dO] (St.start _) rfl ?_
  refine an rfl rfl (ay Dg aI rfl rfl rfl rfl rfl (nb _ s.dB a.tool _ eg) ?_);rintro g1 _ aN rfl;replace hs:=hs.call aN;have ah:=aN.le
  refine ba rfl ?_
  exact aF (aV rfl rfl (hs.ret rfl))
theorem Np(b8 b7 b4:Nat)(is:Bool)(cs:List Value)(s:Step)(a:fD)(g:G)(aC:EP g b8 0 [.bool is])(aP:EP g b7 0 cs)(dO:EP g b4 0 (pE a))(dm:pB g cs s):
  CallsIn Wd 0 Tryz.prog 208 #[.pointer (some ⟨b8,0,none⟩),.pointer (some ⟨b7,0,none⟩),.pointer (some ⟨b4,0,none⟩)] g.w (cR g fun _ r=>r= .bool (is&&s.dD !=a.rcp)):=by
 have hs:=St.start g
 have aq:=G.le.refl g
 obtain⟨a7,n7,c7,a8,n8,c8,rfl,eg,fq⟩:=dm
 refine enter Tryz.func208 rfl Tryz.ntmps208 rfl ?_
 cases is with
 |false=>
  refine aX rfl ?_;refine nK [.z aC] (St.start _) rfl ?_
  exact aF (aV rfl rfl (hs.ret rfl))
 |true=>
  refine aX rfl ?_;refine nK [.z aC,.z aP,.z dO] (St.start _) rfl ?_
  exact aF (aV rfl rfl (hs.ret rfl))
theorem Nq(b3 b4:Nat)(sl:Nat→Value)(b:fX)(a:fD)(g:G)(aC:EP g b3 0 ((List.range 11).map sl))(aP:EP g b4 0 (pE a))(bI:iI g (.agg ((List.range 11).map sl).toArray) b):
  CallsIn Wd 0 Tryz.prog 209 #[.pointer (some ⟨b3,0,none⟩),.pointer (some ⟨b4,0,none⟩)] g.w (cR g fun _ r=>r= .bool (!b.sE.any (pD a.tool a.cham a.rcp a.rvn a.time))):=by
 have hs:=St.start g
 have aq:=G.le.refl g
 refine enter Tryz.func209 rfl Tryz.ntmps209 rfl ?_
 refine aX rfl ?_;refine dx 11 [.z aC,.z aP,.z aP,.z aP,.z aP,.z aP] (St.start _) rfl ?_
 refine an rfl rfl (ay KV aI rfl rfl rfl rfl rfl (DW _ b a.tool a.cham a.rcp a.rvn a.time _ bI) ?_);rintro g1 _ aN rfl;replace hs:=hs.call aN;have ah:=aN.le
 refine ba rfl ?_
 exact aF (aV rfl rfl (hs.ret rfl))
theorem Nr(b3 b4:Nat)(sl:Nat→Value)(b:fX)(a:fD)(g:G)(aC:EP g b3 0 ((List.range 11).map sl))(aP:EP g b4 0 (pE a))(bI:iI g (.agg ((List.range 11).map sl).toArray) b)(hb:DX b):
  CallsIn Wd 0 Tryz.prog 210 #[.pointer (some ⟨b3,0,none⟩),.pointer (some ⟨b4,0,none⟩)] g.w (cR g fun _ r=>r= .bool (decide ((0:Int)<((oI b a).length:Nat)))):=by
 have hs:=St.start g
 have aq:=G.le.refl g
 refine enter Tryz.func210 rfl Tryz.ntmps210 rfl ?_
 refine aX rfl ?_;refine dx 2 [.z aC,.z aP] (St.start _) rfl ?_
 refine an rfl rfl (ay KW aI rfl rfl rfl rfl rfl (A7 _ b a _ bI hb) ?_);rintro g1 _ aN hr;replace hs:=hs.call aN;have ah:=aN.le
 obtain⟨a9,c9,rfl⟩:=hr.isSlice
 refine ba rfl ?_
 exact aF (aV rfl rfl (hs.ret rfl))
end Go.Proofs.YtebobfdheanknaaGreatDoor
namespace Go.Proofs.YtebobfdheanknaaGreatDoor
open Go Go.K
set_option maxRecDepth 10000
attribute [local irreducible] W WL cT cn bX bA bB bD cW cG
set_option maxHeartbeats 1000000
structure OW where
 num:Int
 fn:Value
 ok:Bool
instance:El OW where
 k:=2
 pos:=by omega
 rc g cs r:=cs=[.int .i64 r.num,r.fn]∧r.fn.oneCell'=true∧ ∀g',g.le g'→ir Tryz.prog r.fn [] g'.w (cR g' fun _ v=>v= .bool r.ok)
 len h:=by rw[h.1];rfl
 mono hle h:=⟨h.1,h.2.1,fun g' h'=>h.2.2 g' (hle.trans h')⟩
 one h:=by
  rw[h.1];intro c hc
  rcases List.mem_cons.1 hc with rfl|hc
  ·rfl
  ·rw[List.mem_singleton.1 hc];exact h.2.1
def me(l:List OW):List Int:=(l.filter (·.ok)).map (·.num)
theorem Ns(b9:Nat)(v:Value)(l:List OW)(g:G)(Nt:EP g b9 0 [v])(Jf:Rs g v l):
  sM Tryz.prog 211 #[.pointer (some ⟨b9,0,none⟩)] (fun n:Int=>[.int .i64 n]) (me l) g:=by
 obtain⟨a,c,rfl⟩:=Jf.isSlice
 intro g1 hle yv J Jx hJ Qf hy zC
 have hlen:=Jf.dU
 unfold maxLen at hlen
 have aq:=G.le.refl g1
 have aC:=Nt.mono hle;have HY:=Jf.mono hle
 refine enter Tryz.func211 rfl Tryz.ntmps211 rfl ?_
 refine nK [.z aC] (St.start _) rfl ?_;apply aG
 refine bS (fun m a' w=> ∃(k:Nat) (g':G),w=g'.w∧G.le g1 g'∧k≤l.length∧m=l.length-k∧J (me (l.take k)) g'∧
   Fr 22 [] [(0,yv),(1,.pointer (some ⟨b9,0,none⟩)),(5,.slice a l.length c),(6,.int .i64 (l.length:Nat)),(7,.int .i64 (k:Nat))] a') l.length
  (fun a' ha=>⟨0,g1,rfl,aq,Nat.zero_le _,rfl,zC,ha.keep (by(repeat (first|exact trivial|refine⟨rfl,?_⟩)))⟩) ?_
 clear aC aq
 rintro m a' _ ⟨k,g',rfl,aq,hk,rfl,pj,eI⟩
 have eg:=HY.mono aq
 have hs:=St.start g'
 revert a'
 apply cQ;refine aX rfl ?_;apply aB
 by_cases bh:k<l.length
 ·refine aJ (b:=decide ((k:Int)<(l.length:Int))) (by simp;omega) rfl ?_
  have ic:=cU (n:=((k:Nat):Int)) rfl bh
  have qF:me l=me (l.take k)++(me [l[k]]++me (l.drop (k+1))):=by
   conv=>lhs;rw[←List.take_append_drop k l,List.drop_eq_getElem_cons bh]
   unfold me
   rw[List.filter_append,←List.singleton_append,List.filter_append,List.map_append,List.map_append]
  have cB:me (l.take (k+1))=me (l.take k)++me [l[k]]:=by
   unfold me
   rw[List.take_succ_eq_append_getElem bh,List.filter_append,List.map_append]
  generalize l[k]=x at ic qF cB
  apply aE;apply au;apply aB;apply aG;apply c_
  refine an rfl rfl (aW T.ok rfl eg (y:=x) ic rfl rfl rfl rfl rfl rfl ?_)
  rintro bq pq ys aL ⟨rfl,pK,Gt⟩
  have aP:=aL;clear aL
  refine Wm 1 [.e aP 0] (St.start _) rfl ?_
  refine an rfl rfl (aK T.ok rfl hs rfl rfl ?_);clear hs;rintro bx g1 hs ah;obtain⟨aq,aP⟩:=cC ah aq aP
  skip
  refine bg rfl (aA T.ok 0 rfl hs rfl rfl rfl rfl rfl rfl (by show(true&&(x.fn.oneCell'&&true))=true;rw[pK];rfl) rfl rfl ?_);replace hs:=hs;rintro g2 hs ah;obtain⟨aq,aP⟩:=cC ah aq aP
  obtain⟨g2,bR,aU,ah,aL⟩:=hs.a_ (i:=0) rfl;replace hs:=aU;clear aU;rw[←bR];obtain⟨aq,aP⟩:=cC ah aq aP
  (repeat clear aP)
  have aP:=aL;clear aL
  apply cf;refine dx 2 [.z aP] (St.start _) rfl ?_
  refine an rfl rfl (eA rfl rfl rfl rfl rfl rfl (Gt _ ((G.le.refl g').trans hs.le)) ?_);rintro g4 _ kL rfl;replace hs:=hs.call kL;have ah:=kL.le;obtain⟨aq,aP⟩:=cC ah aq aP
  cases lH:x.ok with
  |false=>
   have e:me [x]=[]:=by unfold me;rw[List.filter_cons,lH];rfl
   rw[e,List.append_nil]at cB
   refine ba rfl ?_
   refine aS rfl rfl ?_
   apply aE;apply bU;apply au;apply ar;refine Wp 2 rfl ?_;apply aD
   exact fun a ha=>⟨l.length-(k+1),by omega,k+1,_,rfl,aq,by omega,rfl,by rw[cB];exact hJ _ _ _ hs.mS pj,ha.keep ⟨rfl,rfl,rfl,rfl,kI rfl (by rw[wr (by omega) (by omega)];omega),trivial⟩⟩
  |true=>
   have e:me [x]=[x.num]:=by unfold me;rw[List.filter_cons,lH];rfl
   rw[e]at cB qF
   refine Wm 4 [.z aP] (St.start _) rfl ?_
   have FI:=hJ _ _ _ hs.mS pj
   refine an rfl rfl (eT rfl rfl rfl rfl rfl rfl ((hy _ x.num _ _ qF aq FI).mono ?_))
   rintro _ _ ⟨g5,bv,rfl,rfl,ah,ht,hf⟩
   refine⟨_,rfl,?_⟩
   (repeat clear hs)
   replace aq:=G.le.trans aq ah
   cases bv with
   |false=>
    refine ba rfl ?_
    refine aJ rfl rfl ?_
    skip
    refine aF ?_;apply iq;apply eF;apply eF;apply iq;refine rR rfl ?_
    exact⟨g5,_,rfl,rfl,aq,.inr ⟨_,⟨me (l.drop (k+1)),by rw[List.append_assoc];exact qF.symm⟩,hf rfl⟩⟩
   |true=>
    refine ba rfl ?_
    refine aS rfl rfl ?_
    apply aE;apply bU;apply au;apply ar;refine Wp 2 rfl ?_;apply aD
    exact fun a ha=>⟨l.length-(k+1),by omega,k+1,_,rfl,aq,by omega,rfl,by rw[cB];exact ht rfl,ha.keep ⟨rfl,rfl,rfl,rfl,kI rfl (by rw[wr (by omega) (by omega)];omega),trivial⟩⟩
 ·refine aS (b:=decide ((k:Int)<(l.length:Int))) (by simp;omega) rfl ?_
  apply bE;apply bK;apply bK;apply dc
  refine mv rfl ⟨g',_,rfl,rfl,aq,.inl ?_⟩
  rw[List.take_of_length_le (by omega)]at pj
  exact pj
def B5(b:fX)(a:fD)(o:Option bV)(h:List bc):List Bool:=
 [!o.isSome,o.isSome&& !(wH o h).contains a.step,(gR o a.step).isSome&& !((gR o a.step).getD jW).dB.contains a.tool,(gR o a.step).isSome&&((gR o a.step).getD jW).dD !=a.rcp,
  !b.sE.any (pD a.tool a.cham a.rcp a.rvn a.time),decide ((0:Int)<((oI b a).length:Nat))]
def B6(l:List Bool):List Int:=(([1,2,4,8,16,32]:List Int).zip l).filterMap fun p=>if p.2 then some p.1 else none
theorem Jg(f1 f2 f3 f4 f5 f6:Value)(c1 c2 c3 c4 c5 c6:Bool):me [⟨1,f1,c1⟩,⟨2,f2,c2⟩,⟨4,f3,c3⟩,⟨8,f4,c4⟩,⟨16,f5,c5⟩,⟨32,f6,c6⟩]=B6 [c1,c2,c3,c4,c5,c6]:=by
 cases c1<;>cases c2<;>cases c3<;>cases c4<;>cases c5<;>cases c6<;>rfl
theorem B7(v u:Value)(b:fX)(a:fD)(o:Option bV)(h:List bc)(g:G)(bI:iI g v b)(kn:FM g u o h)(hb:DX b)(hl:h.length≤1000000)(ho:OV o):CallsIn Wd 0 Tryz.prog 118 #[v,Gl a,u] g.w (cR g fun g' r=> ∃b9 sv l,r= .func (.func 211) #[] #[.pointer (some ⟨b9,0,none⟩)]∧EP g' b9 0 [sv]∧Rs g' sv l∧me l=B6 (B5 b a o h)∧l.length=6):=by
 have hs:=St.start g
 have aq:=G.le.refl g
 obtain⟨sl,rfl,jr⟩:=bI
 have bI:iI g (.agg ((List.range 11).map sl).toArray) b:=⟨sl,rfl,jr⟩
 obtain⟨kc,rfl,kn⟩:=kn
 have lP:=kn
 obtain⟨a1,n1,c1,a2,n2,c2,a3,c3,rfl,aT,bT,bN⟩:=kn
 refine enter Tryz.func118 rfl Tryz.ntmps118 rfl ?_
 apply c_
 refine an rfl rfl (aR rfl hs rfl rfl ?_);clear hs;rintro b3 g1 hs ah;obtain⟨aq,bI⟩:=cC ah aq bI
 obtain⟨g2,bR,aU,ah,aL⟩:=hs.a_ (i:=0) rfl;replace hs:=aU;clear aU;rw[←bR];obtain⟨aq,bI⟩:=cC ah aq bI
 have dL:=aL;clear aL
 skip
 refine an rfl rfl (aR rfl hs rfl rfl ?_);clear hs;rintro b4 g1 hs ah;obtain⟨aq,dL,bI⟩:=ef ah aq dL bI
 obtain⟨g2,bR,aU,ah,aL⟩:=hs.a_ (i:=0) rfl;replace hs:=aU;clear aU;rw[←bR];obtain⟨aq,dL,bI⟩:=ef ah aq dL bI
 have aP:=aL;clear aL
 skip
 refine an rfl rfl (aR rfl hs rfl rfl ?_);clear hs;rintro b5 g1 hs ah;obtain⟨aq,aP,dL,bI⟩:=dE ah aq aP dL bI
 obtain⟨g2,bR,aU,ah,aL⟩:=hs.a_ (i:=0) rfl;replace hs:=aU;clear aU;rw[←bR];obtain⟨aq,aP,dL,bI⟩:=dE ah aq aP dL bI
 have dO:=aL;clear aL
 replace lP:=lP.mono aq
 refine ba rfl ?_;refine dx 3 [.z dO,.z aP] (St.start _) rfl ?_
 refine an rfl rfl (ay De aI rfl rfl rfl rfl rfl (D6 _ o h a.step _ ⟨_,rfl,lP⟩) ?_)
 rintro g6 _ mY ⟨cs,rfl,dm⟩
 replace hs:=hs.call mY;have ah:=mY.le;obtain⟨aP,dO,dL,bI⟩:=dE ah aP dO dL bI
 replace lP:=lP.mono ah
 unfold B5
 generalize(gR o a.step).isSome=is at*
 generalize(gR o a.step).getD jW=s at*
 obtain⟨a7,n7,c7,a8,n8,c8,rfl,eg,fq⟩:=dm
 clear aT bT bN mY
 refine Wp 3 rfl ?_
 refine an rfl rfl (aK T.ok rfl hs rfl rfl ?_);clear hs;rintro b7 g1 hs ah;obtain⟨aP,dO,eg,fq,dL,bI⟩:=iu ah aP dO eg fq dL bI
 replace lP:=lP.mono ah
 refine an rfl rfl (aK T.ok rfl hs rfl rfl ?_);clear hs;rintro b8 g1 hs ah;obtain⟨aP,dO,eg,fq,dL,bI⟩:=iu ah aP dO eg fq dL bI
 replace lP:=lP.mono ah
 refine bg rfl (aA T.ok 1 rfl hs rfl rfl rfl rfl rfl rfl rfl rfl rfl ?_);replace hs:=hs;rintro g1 hs ah;obtain⟨aP,dO,eg,fq,dL,bI⟩:=iu ah aP dO eg fq dL bI
 replace lP:=lP.mono ah
 refine bg rfl (aA T.ok 0 rfl hs rfl rfl rfl rfl rfl rfl rfl rfl rfl ?_);replace hs:=hs;rintro g1 hs ah;obtain⟨aP,dO,eg,fq,dL,bI⟩:=iu ah aP dO eg fq dL bI
 replace lP:=lP.mono ah
 obtain⟨g2,bR,aU,ah,aL⟩:=hs.a_ (i:=0) rfl;replace hs:=aU;clear aU;rw[←bR];obtain⟨aP,dO,eg,fq,dL,bI⟩:=iu ah aP dO eg fq dL bI
 have Kx:=aL;clear aL
 replace lP:=lP.mono ah
 obtain⟨g2,bR,aU,ah,aL⟩:=hs.a_ (i:=0) rfl;replace hs:=aU;clear aU;rw[←bR];obtain⟨aP,dO,eg,fq,dL,Kx⟩:=iu ah aP dO eg fq dL Kx;replace bI:=bI.mono ah
 have OX:=aL;clear aL
 replace lP:=lP.mono ah
 apply cf;refine cP 1 rfl ?_
 refine an rfl rfl (aQ T.ok rfl (vs:=[(0,.int .i64 1),(1,(.func (.func 204) #[] #[.pointer (some ⟨b5,0,none⟩)]))]) (cells:=[.int .i64 1,(.func (.func 204) #[] #[.pointer (some ⟨b5,0,none⟩)])]) rfl rfl rfl rfl [(0,1),(1,1)] rfl (by kernel_rfl) ?_)
 refine Wp 1 rfl ?_
 refine an rfl rfl (aQ T.ok rfl (vs:=[(0,.int .i64 2),(1,(.func (.func 205) #[] #[.pointer (some ⟨b5,0,none⟩),.pointer (some ⟨b4,0,none⟩)]))]) (cells:=[.int .i64 2,(.func (.func 205) #[] #[.pointer (some ⟨b5,0,none⟩),.pointer (some ⟨b4,0,none⟩)])]) rfl rfl rfl rfl [(0,1),(1,1)] rfl (by kernel_rfl) ?_)
 refine Wp 1 rfl ?_
 refine an rfl rfl (aQ T.ok rfl (vs:=[(0,.int .i64 4),(1,(.func (.func 207) #[] #[.pointer (some ⟨b8,0,none⟩),.pointer (some ⟨b7,0,none⟩),.pointer (some ⟨b4,0,none⟩)]))]) (cells:=[.int .i64 4,(.func (.func 207) #[] #[.pointer (some ⟨b8,0,none⟩),.pointer (some ⟨b7,0,none⟩),.pointer (some ⟨b4,0,none⟩)])]) rfl rfl rfl rfl [(0,1),(1,1)] rfl (by kernel_rfl) ?_)
 refine Wp 1 rfl ?_
 refine an rfl rfl (aQ T.ok rfl (vs:=[(0,.int .i64 8),(1,(.func (.func 208) #[] #[.pointer (some ⟨b8,0,none⟩),.pointer (some ⟨b7,0,none⟩),.pointer (some ⟨b4,0,none⟩)]))]) (cells:=[.int .i64 8,(.func (.func 208) #[] #[.pointer (some ⟨b8,0,none⟩),.pointer (some ⟨b7,0,none⟩),.pointer (some ⟨b4,0,none⟩)])]) rfl rfl rfl rfl [(0,1),(1,1)] rfl (by kernel_rfl) ?_)
 refine Wp 1 rfl ?_
 refine an rfl rfl (aQ T.ok rfl (vs:=[(0,.int .i64 16),(1,(.func (.func 209) #[] #[.pointer (some ⟨b3,0,none⟩),.pointer (some ⟨b4,0,none⟩)]))]) (cells:=[.int .i64 16,(.func (.func 209) #[] #[.pointer (some ⟨b3,0,none⟩),.pointer (some ⟨b4,0,none⟩)])]) rfl rfl rfl rfl [(0,1),(1,1)] rfl (by kernel_rfl) ?_)
 refine Wp 1 rfl ?_
 refine an rfl rfl (aQ T.ok rfl (vs:=[(0,.int .i64 32),(1,(.func (.func 210) #[] #[.pointer (some ⟨b3,0,none⟩),.pointer (some ⟨b4,0,none⟩)]))]) (cells:=[.int .i64 32,(.func (.func 210) #[] #[.pointer (some ⟨b3,0,none⟩),.pointer (some ⟨b4,0,none⟩)])]) rfl rfl rfl rfl [(0,1),(1,1)] rfl (by kernel_rfl) ?_)
 skip
 refine an rfl rfl (bj T.ok rfl hs (vs:=[(0,.agg #[.int .i64 1,(.func (.func 204) #[] #[.pointer (some ⟨b5,0,none⟩)])]),(1,.agg #[.int .i64 2,(.func (.func 205) #[] #[.pointer (some ⟨b5,0,none⟩),.pointer (some ⟨b4,0,none⟩)])]),(2,.agg #[.int .i64 4,(.func (.func 207) #[] #[.pointer (some ⟨b8,0,none⟩),.pointer (some ⟨b7,0,none⟩),.pointer (some ⟨b4,0,none⟩)])]),(3,.agg #[.int .i64 8,(.func (.func 208) #[] #[.pointer (some ⟨b8,0,none⟩),.pointer (some ⟨b7,0,none⟩),.pointer (some ⟨b4,0,none⟩)])]),(4,.agg #[.int .i64 16,(.func (.func 209) #[] #[.pointer (some ⟨b3,0,none⟩),.pointer (some ⟨b4,0,none⟩)])]),(5,.agg #[.int .i64 32,(.func (.func 210) #[] #[.pointer (some ⟨b3,0,none⟩),.pointer (some ⟨b4,0,none⟩)])])]) (cells:=[.int .i64 1,(.func (.func 204) #[] #[.pointer (some ⟨b5,0,none⟩)]),.int .i64 2,(.func (.func 205) #[] #[.pointer (some ⟨b5,0,none⟩),.pointer (some ⟨b4,0,none⟩)]),.int .i64 4,(.func (.func 207) #[] #[.pointer (some ⟨b8,0,none⟩),.pointer (some ⟨b7,0,none⟩),.pointer (some ⟨b4,0,none⟩)]),.int .i64 8,(.func (.func 208) #[] #[.pointer (some ⟨b8,0,none⟩),.pointer (some ⟨b7,0,none⟩),.pointer (some ⟨b4,0,none⟩)]),.int .i64 16,(.func (.func 209) #[] #[.pointer (some ⟨b3,0,none⟩),.pointer (some ⟨b4,0,none⟩)]),.int .i64 32,(.func (.func 210) #[] #[.pointer (some ⟨b3,0,none⟩),.pointer (some ⟨b4,0,none⟩)])]) rfl rfl rfl rfl rfl rfl (by decide) (by decide) (by kernel_rfl) rfl ?_)
 clear hs;rintro bl gl hs ah;obtain⟨aP,dO,eg,fq,dL,Kx⟩:=iu ah aP dO eg fq dL Kx;obtain⟨OX,bI⟩:=cC ah OX bI
 replace lP:=lP.mono ah
 obtain⟨gz,ik,cS,ah,B8⟩:=hs.cL (α:=OW) (xs:=[⟨1,(.func (.func 204) #[] #[.pointer (some ⟨b5,0,none⟩)]),(!o.isSome)⟩,⟨2,(.func (.func 205) #[] #[.pointer (some ⟨b5,0,none⟩),.pointer (some ⟨b4,0,none⟩)]),(o.isSome&& !(wH o h).contains a.step)⟩,⟨4,(.func (.func 207) #[] #[.pointer (some ⟨b8,0,none⟩),.pointer (some ⟨b7,0,none⟩),.pointer (some ⟨b4,0,none⟩)]),(is&& !s.dB.contains a.tool)⟩,⟨8,(.func (.func 208) #[] #[.pointer (some ⟨b8,0,none⟩),.pointer (some ⟨b7,0,none⟩),.pointer (some ⟨b4,0,none⟩)]),(is&&s.dD !=a.rcp)⟩,⟨16,(.func (.func 209) #[] #[.pointer (some ⟨b3,0,none⟩),.pointer (some ⟨b4,0,none⟩)]),(!b.sE.any (pD a.tool a.cham a.rcp a.rvn a.time))⟩,⟨32,(.func (.func 210) #[] #[.pointer (some ⟨b3,0,none⟩),.pointer (some ⟨b4,0,none⟩)]),(decide ((0:Int)<((oI b a).length:Nat)))⟩]) (i:=0) rfl (⟨[.int .i64 1,(.func (.func 204) #[] #[.pointer (some ⟨b5,0,none⟩)])],_,rfl,⟨rfl,rfl,fun g' h'=>de (first:=#[]) (args:=[]) (captured:=#[.pointer (some ⟨b5,0,none⟩)]) Mh rfl (Nl b5 _ o h g' (dO.mono h') (lP.mono h'))⟩,⟨[.int .i64 2,(.func (.func 205) #[] #[.pointer (some ⟨b5,0,none⟩),.pointer (some ⟨b4,0,none⟩)])],_,rfl,⟨rfl,rfl,fun g' h'=>de (first:=#[]) (args:=[]) (captured:=#[.pointer (some ⟨b5,0,none⟩),.pointer (some ⟨b4,0,none⟩)]) Mi rfl (Nn b5 b4 _ o h a g' (dO.mono h') (aP.mono h') (lP.mono h') hl ho)⟩,⟨[.int .i64 4,(.func (.func 207) #[] #[.pointer (some ⟨b8,0,none⟩),.pointer (some ⟨b7,0,none⟩),.pointer (some ⟨b4,0,none⟩)])],_,rfl,⟨rfl,rfl,fun g' h'=>de (first:=#[]) (args:=[]) (captured:=#[.pointer (some ⟨b8,0,none⟩),.pointer (some ⟨b7,0,none⟩),.pointer (some ⟨b4,0,none⟩)]) Mj rfl (No b8 b7 b4 is _ s a g' (Kx.mono h') (OX.mono h') (aP.mono h') ⟨a7,n7,c7,a8,n8,c8,rfl,eg.mono h',fq.mono h'⟩)⟩,⟨[.int .i64 8,(.func (.func 208) #[] #[.pointer (some ⟨b8,0,none⟩),.pointer (some ⟨b7,0,none⟩),.pointer (some ⟨b4,0,none⟩)])],_,rfl,⟨rfl,rfl,fun g' h'=>de (first:=#[]) (args:=[]) (captured:=#[.pointer (some ⟨b8,0,none⟩),.pointer (some ⟨b7,0,none⟩),.pointer (some ⟨b4,0,none⟩)]) Mk rfl (Np b8 b7 b4 is _ s a g' (Kx.mono h') (OX.mono h') (aP.mono h') ⟨a7,n7,c7,a8,n8,c8,rfl,eg.mono h',fq.mono h'⟩)⟩,⟨[.int .i64 16,(.func (.func 209) #[] #[.pointer (some ⟨b3,0,none⟩),.pointer (some ⟨b4,0,none⟩)])],_,rfl,⟨rfl,rfl,fun g' h'=>de (first:=#[]) (args:=[]) (captured:=#[.pointer (some ⟨b3,0,none⟩),.pointer (some ⟨b4,0,none⟩)]) Ml rfl (Nq b3 b4 sl b a g' (dL.mono h') (aP.mono h') (bI.mono h'))⟩,⟨[.int .i64 32,(.func (.func 210) #[] #[.pointer (some ⟨b3,0,none⟩),.pointer (some ⟨b4,0,none⟩)])],_,rfl,⟨rfl,rfl,fun g' h'=>de (first:=#[]) (args:=[]) (captured:=#[.pointer (some ⟨b3,0,none⟩),.pointer (some ⟨b4,0,none⟩)]) Mm rfl (Nr b3 b4 sl b a g' (dL.mono h') (aP.mono h') (bI.mono h') hb)⟩,rfl⟩⟩⟩⟩⟩⟩)
 rw[←ik];clear hs;replace hs:=cS;clear cS
 skip
 refine an rfl rfl (aK T.ok rfl hs rfl rfl ?_);clear hs;rintro b9 g1 hs ah;skip
 replace B8:=B8.mono ah
 refine bg rfl (aA T.ok 0 rfl hs rfl rfl rfl rfl rfl rfl rfl rfl rfl ?_);replace hs:=hs;rintro g1 hs ah;skip
 replace B8:=B8.mono ah
 obtain⟨g2,bR,aU,ah,aL⟩:=hs.a_ (i:=0) rfl;replace hs:=aU;clear aU;rw[←bR];skip
 replace B8:=B8.mono ah
 apply cf;refine aX rfl ?_
 exact aF (aV rfl rfl (hs.ret ⟨b9,_,_,rfl,aL,B8,Jg _ _ _ _ _ _ _ _ _ _ _ _,rfl⟩))
end Go.Proofs.YtebobfdheanknaaGreatDoor
namespace Go.Proofs.YtebobfdheanknaaGreatDoor
open Go Go.K
set_option maxRecDepth 10000
attribute [local irreducible] W WL cT cn bX bA bB bD cW cG
set_option maxHeartbeats 1000000
def B9(l:List Int):Int:=l.foldl (fun s n=>IntKind.i64.wrap (s+n)) 0
def SE(o:Option bV)(h:List bc):Fact:=⟨fun v g=>FM g v o h,fun _ _ _ hf k=>k.mono hf.le⟩
def Ug(xs:List Int):Fact:=⟨fun v g=> ∃b9 sv l,v= .func (.func 211) #[] #[.pointer (some ⟨b9,0,none⟩)]∧EP g b9 0 [sv]∧Rs g sv l∧me l=xs∧l.length=6,
 fun _ _ _ hf ⟨b9,sv,l,e,h1,h2,h3⟩=>⟨b9,sv,l,e,h1.mono hf.le,h2.mono hf.le,h3⟩⟩
def rn(b:fX)(a:fD)(h:List bc):Int:=B9 (B6 (B5 b a (fB b a.waf a.time) h))
structure FO(b:fX):Prop where
 size:DX b
 text:SC b
theorem VT{s:List UInt8}{f:bV}(h:lx s= .inl f):valid f=true:=by
 unfold lx at h
 split at h
 ·split at h
  ·rename_i hv;cases h;exact hv
  ·cases h
 ·cases h
theorem yb{b:fX}{w time:Int}{f:bV}(h:fB b w time=some f):valid f=true:=by
 unfold fB at h
 split at h
 ·cases h
 ·split at h
  ·cases h
  ·split at h
   ·rename_i hp
    split at h
    ·cases h;exact VT hp
    ·cases h
   ·cases h
theorem zS{f:bV}(h:valid f=true): ∀s∈f.steps,s.next.length≤4:=by
 intro s hs
 unfold valid at h
 simp only[Bool.and_eq_true,List.all_eq_true]at h
 have:=h.1.2 s hs
 unfold cg at this
 simp only[Bool.and_eq_true,decide_eq_true_eq]at this
 omega
theorem FO.Nu{b:fX}(_:FO b)(w time:Int):OV (fB b w time):=fun f hf s hs=>Nat.le_trans (zS (yb hf) s hs) (by decide)
theorem zT(v u:Value)(b:fX)(a:fD)(h:List bc)(g:G)(bI:iI g v b)(aH:Rs g u h)(hb:FO b)(hl:h.length≤1000000)(bM:iw g):CallsIn Wd 0 Tryz.prog 48 #[v,Gl a,u] g.w (cR g fun _ r=>r= .int .i64 (rn b a h)):=by
 have hs:=St.start g
 have aq:=G.le.refl g
 obtain⟨sl,rfl,jr⟩:=bI
 have bI:iI g (.agg ((List.range 11).map sl).toArray) b:=⟨sl,rfl,jr⟩
 refine qH Tryz.func48 rfl Tryz.ntmps48 rfl ?_
 apply c_
 refine an rfl rfl (aR rfl hs rfl rfl ?_);clear hs;rintro b3 g1 hs ah;obtain⟨aq,aH,bI,bM⟩:=dE ah aq aH bI bM
 obtain⟨g2,bR,aU,ah,aL⟩:=hs.a_ (i:=0) rfl;replace hs:=aU;clear aU;rw[←bR];obtain⟨aq,aH,bI,bM⟩:=dE ah aq aH bI bM
 have aC:=aL;clear aL
 skip
 refine an rfl rfl (aR rfl hs rfl rfl ?_);clear hs;rintro b4 g1 hs ah;obtain⟨aq,aC,aH,bI,bM⟩:=kN ah aq aC aH bI bM
 obtain⟨g2,bR,aU,ah,aL⟩:=hs.a_ (i:=0) rfl;replace hs:=aU;clear aU;rw[←bR];obtain⟨aq,aC,aH,bI,bM⟩:=kN ah aq aC aH bI bM
 have aP:=aL;clear aL
 refine ba rfl ?_;apply c_
 refine an rfl rfl (aK T.ok rfl hs rfl rfl ?_);clear hs;rintro b7 g1 hs ah;obtain⟨aq,aC,aP,aH,bI,bM⟩:=iu ah aq aC aP aH bI bM
 refine bg rfl (aA T.ok 0 rfl hs rfl rfl rfl rfl rfl rfl rfl rfl rfl ?_);replace hs:=hs;rintro g1 hs ah;obtain⟨aq,aC,aP,aH,bI,bM⟩:=iu ah aq aC aP aH bI bM
 replace hs:St g _ [.obj b7 (.cells #[.int .i64 0] 3 (0,0))]:=hs
 apply cf;apply aB;apply aB
 apply ed (fj (.f (SE (fB b a.waf a.time) h):: .f (Ug (B6 (B5 b a (fB b a.waf a.time) h)))::[])) 10 [(9,18)] (by kernel_rfl)
 ·refine Dm [[],[],[],[],[3],[],[5],[]] [.z aC,.z aP,.z aC,.z aP,.z aP] hs (by kernel_rfl) rfl ?_
  refine aw (ak (js:=[(2,11),(4,13),(6,15),(7,16)]) (by kernel_rfl) fun gd hf=>ai rfl (ai rfl (ai rfl (ai rfl (aj (az rfl (ay KZ aI rfl rfl rfl rfl rfl (A8 _ _ b a.waf a.time h gd (bI.mono ((G.bJ _).trans hf.le)) (aH.mono ((G.bJ _).trans hf.le)) hb.text (bM.mono ((G.bJ _).trans hf.le))) fun g' v h1 h2=>⟨g',rfl,h1,h2⟩))))))) ?_
  refine aw (ak (js:=[(0,9),(1,10),(8,17),(8,17)]) (by kernel_rfl) fun gd hf=>ai rfl (ai rfl (aY fun _ _=>aY fun v8 h8=>aj (az rfl (ay Ll aI rfl rfl rfl rfl rfl (B7 _ v8 b a _ h gd (bI.mono ((G.bJ _).trans hf.le)) h8 hb.size hl (hb.Nu _ _)) fun g' v h1 h2=>⟨g',rfl,h1,h2⟩))))) ?_
  exact fJ
 intro g1 aN;refine aY fun v9 h9=>aj ?_
 replace hs:=hs.dr.call aN;have ah:=(G.bJ _).trans aN.le;replace aq:=G.le.trans aq ah
 unfold rn
 generalize B6 (B5 b a (fB b a.waf a.time) h)=xs at*
 obtain⟨b9,sv,l,rfl,Uh,Ui,jm,Wn⟩:=h9
 apply cf;apply aG
 refine s_ (N:=24) hs rfl Mo (Ns b9 sv l g1 Uh Ui).SB rfl (fun _=>rfl)
  (fun pre L g'=>L=[.obj b7 (.cells #[.int .i64 (B9 pre)] 3 (0,0))]∧G.le g g') (fun _ _ _ _=>False) (fun _ _ _ _ hle h=>⟨h.1,h.2.trans hle⟩) (fun _ _ _ _ _ _ h=>h) ⟨rfl,aq⟩
  (fun pre x L la g'=>la=[(7,.pointer (some ⟨b7,0,none⟩)),(8,.int .i64 x)]∧L=[.obj b7 (.cells #[.int .i64 (B9 pre)] 3 (0,0))]∧G.le g g') (fun _ _ _ _ _ _ hle h=>⟨h.1,h.2.1,h.2.2.trans hle⟩) ?_ ?_ ?_ ?_
 ·rintro lp D ro pre x gr Lr M jm hle hs hI
  apply ar;refine Wp 1 rfl ?_;apply aD
  exact fun a ha=>⟨gr,Lr,_,rfl,G.le.refl _,hs,⟨rfl,hI⟩,ha.keep (by(repeat (first|exact trivial|refine⟨rfl,?_⟩)))⟩
 ·rintro lp D ro pre x gr Lr la M jm hle hs ⟨rfl,rfl,aq⟩
  have cN:=G.le.refl gr
  apply aG;apply ar;refine Wm 3 [.o 2] hs rfl ?_
  refine bg rfl (aA T.ok 2 rfl hs rfl rfl rfl rfl rfl rfl rfl rfl rfl ?_);replace hs:=hs;rintro g1 hs ah;obtain⟨aq,cN⟩:=cC ah aq cN
  apply aD;apply bU
  exact fun a ha=>⟨_,_,rfl,hs,cN,[.obj b7 (.cells #[.int .i64 (B9 (pre++[x]))] 3 (0,0))],by unfold B9;rw[List.foldl_append];rfl,rfl,aq⟩
 ·rintro lp D o ys Lr ge rfl hle hs ⟨rfl,aq⟩
  rw[jm]at hs
  apply bU;apply au;refine nK [.o 2] hs rfl ?_
  refine aF ?_;skip
  exact DZ 1 rfl hs rfl rfl (fun g' iS fL=>iS.ret rfl)
 ·rintro c lp D o pre Lr ge _ _ _ h
  exact h.elim
theorem oK{b:fX}(hb:DX b)(w time:Int):(jb b w time).length≤1000000:=Nat.le_trans (List.length_filter_le ..) (qR hb w)
def th(b:fX)(a:fD):Int:=rn b a (jb b a.waf a.time)
theorem D_(v:Value)(b:fX)(a:fD)(g:G)(bI:iI g v b)(hb:FO b)(bM:iw g):CallsIn Wd 0 Tryz.prog 23 #[v,Gl a] g.w (cR g fun _ r=>r= .int .i64 (th b a)):=by
 have hs:=St.start g
 have aq:=G.le.refl g
 obtain⟨sl,rfl,jr⟩:=bI
 have bI:iI g (.agg ((List.range 11).map sl).toArray) b:=⟨sl,rfl,jr⟩
 refine enter Tryz.func23 rfl Tryz.ntmps23 rfl ?_
 apply c_
 refine an rfl rfl (aR rfl hs rfl rfl ?_);clear hs;rintro b2 g1 hs ah;obtain⟨bI,bM⟩:=cC ah bI bM
 obtain⟨g2,bR,aU,ah,aL⟩:=hs.a_ (i:=0) rfl;replace hs:=aU;clear aU;rw[←bR];obtain⟨bI,bM⟩:=cC ah bI bM
 have aC:=aL;clear aL
 skip
 refine an rfl rfl (aR rfl hs rfl rfl ?_);clear hs;rintro b3 g1 hs ah;obtain⟨aC,bI,bM⟩:=ef ah aC bI bM
 obtain⟨g2,bR,aU,ah,aL⟩:=hs.a_ (i:=0) rfl;replace hs:=aU;clear aU;rw[←bR];obtain⟨aC,bI,bM⟩:=ef ah aC bI bM
 have aP:=aL;clear aL
 refine ba rfl ?_;apply aB
 apply bO hs (gE (eJ (fe (.f (Fact.rs (jb b a.waf a.time))::fe [])))) 9 [(8,13)] (by kernel_rfl) rfl
 ·refine Dm [[],[],[],[],[3],[],[5]] [.z aC,.z aP,.z aC,.z aP,.z aP] hs (by kernel_rfl) rfl ?_
  refine aw (ak (js:=[(2,7),(4,9),(6,11)]) (by kernel_rfl) fun gd hf=>ai rfl (ai rfl (ai rfl (aj (az rfl (ay IV aI rfl rfl rfl rfl rfl (wG _ b a.waf a.time gd (bI.mono ((G.bJ _).trans hf.le)) hb.size) fun g' v h1 h2=>⟨g',rfl,h1,h2⟩)))))) ?_
  refine aw (ak (js:=[(0,5),(1,6),(7,12),(7,12)]) (by kernel_rfl) fun gd hf=>ai rfl (ai rfl (aY fun _ _=>aY fun v8 h8=>aj (az rfl (ay IT aI rfl rfl rfl rfl rfl (zT _ v8 b a _ gd (bI.mono ((G.bJ _).trans hf.le)) h8 hb (oK hb.size _ _) (bM.mono ((G.bJ _).trans hf.le))) fun g' v h1 h2=>⟨g',rfl,h1,h2⟩))))) ?_
  exact fJ
 clear hs;intro g6 hs ah
 refine ba rfl ?_
 exact aF (aV rfl rfl (hs.ret rfl))
def mz(b:fX)(w time:Int):List Int:=wH (fB b w time) (jb b w time)
theorem wI(v:Value)(b:fX)(w time:Int)(g:G)(bI:iI g v b)(hb:FO b)(bM:iw g):CallsIn Wd 0 Tryz.prog 21 #[v,.int .i64 w,.int .i64 time] g.w (cR g fun g' r=>Rs g' r (mz b w time)):=by
 have hs:=St.start g
 have aq:=G.le.refl g
 obtain⟨sl,rfl,jr⟩:=bI
 have bI:iI g (.agg ((List.range 11).map sl).toArray) b:=⟨sl,rfl,jr⟩
 refine enter Tryz.func21 rfl Tryz.ntmps21 rfl ?_
 apply c_
 refine an rfl rfl (aR rfl hs rfl rfl ?_);clear hs;rintro b2 g1 hs ah;obtain⟨bI,bM⟩:=cC ah bI bM
 obtain⟨g2,bR,aU,ah,aL⟩:=hs.a_ (i:=0) rfl;replace hs:=aU;clear aU;rw[←bR];obtain⟨bI,bM⟩:=cC ah bI bM
 have aC:=aL;clear aL
 refine ba rfl ?_;apply aB
 refine oG (l':=[(1,.int .i64 w),(2,.int .i64 time),(3,.pointer (some ⟨b2,0,none⟩))]) (by(repeat (first|exact trivial|refine⟨rfl,?_⟩))) ?_
 apply ed (gE (eJ (.f (Fact.rs (jb b w time)):: .f (SE (fB b w time) (jb b w time)):: .f (Fact.rs (mz b w time))::[]))) 9 [(8,15)] (by kernel_rfl)
 ·refine Dm [[],[],[],[],[],[]] [.z aC,.z aC] hs (by kernel_rfl) rfl ?_
  refine aw (ak (js:=[(3,10),(4,11),(5,12)]) (by kernel_rfl) fun gd hf=>ai rfl (ai rfl (ai rfl (aj (az rfl (ay IV aI rfl rfl rfl rfl rfl (wG _ b w time gd (bI.mono ((G.bJ _).trans hf.le)) hb.size) fun g' v h1 h2=>⟨g',rfl,h1,h2⟩)))))) ?_
  refine aw (ak (js:=[(0,7),(1,8),(2,9),(6,13),(6,13)]) (by kernel_rfl) fun gd hf=>ai rfl (ai rfl (ai rfl (aY fun _ _=>aY fun v6 h6=>aj (az rfl (ay KZ aI rfl rfl rfl rfl rfl (A8 _ v6 b w time _ gd (bI.mono ((G.bJ _).trans hf.le)) h6 hb.text (bM.mono ((G.bJ _).trans hf.le))) fun g' v h1 h2=>⟨g',rfl,h1,h2⟩)))))) ?_
  refine aw (ak (js:=[(7,14),(7,14)]) (by kernel_rfl) fun gd hf=>aY fun _ _=>aY fun v7 h7=>aj (az rfl (ay K0 aI rfl rfl rfl rfl rfl (D9 v7 _ _ gd h7 (oK hb.size _ _) (hb.Nu _ _)) fun g' v h1 h2=>⟨g',rfl,h1,h2⟩))) ?_
  exact fJ
 intro g1 aN;refine aY fun v9 h9=>aj ?_
 replace hs:=hs.dr.call aN;have ah:=(G.bJ _).trans aN.le
 refine ba rfl ?_
 exact aF (aV rfl rfl (hs.ret h9))
end Go.Proofs.YtebobfdheanknaaGreatDoor
namespace Go.Proofs.YtebobfdheanknaaGreatDoor
open Go Go.K
set_option maxRecDepth 10000
attribute [local irreducible] W WL cT cn bX bA bB bD cW cG
set_option maxHeartbeats 1000000
abbrev rI(v:Value)(xs:List Int):cV:=.row 3 1 v xs.length (eB xs)
def mA(g0:G)(v8 v9:Value)(xs ys:List Int)(x y:Int)(ρ:Nat→Option Value)(g:G):Prop:=
 match ρ 4,ρ 9 with
 |none,none=>St g0 g [rI v8 xs,rI v9 ys]
 |some v,none=>(∃a c,v= .slice a (xs.length+1) c)∧St g0 g [rI v (xs++[x]),rI v9 ys]
 |some v,some u=>(∃a c,v= .slice a (xs.length+1) c)∧(∃a c,u= .slice a (ys.length+1) c)∧St g0 g [rI v (xs++[x]),rI u (ys++[y])]
 |none,some _=>False
theorem zU{g0:G}{v8 v9:Value}{xs ys:List Int}{x y:Int}(ρ:Nat→Option Value)(g g':G)(hf:aZ g g')(h:mA g0 v8 v9 xs ys x y ρ g):mA g0 v8 v9 xs ys x y ρ g':=by
 unfold mA at h⊢
 split at h
 ·exact h.call hf
 ·exact⟨h.1,h.2.call hf⟩
 ·exact⟨h.1,h.2.1,h.2.2.call hf⟩
 ·exact h
theorem oN(a:Option Addr)(c:Nat)(xs:List Int)(x:Int):rI (.slice a (xs.length+1) c) (xs++[x])= .row 3 1 (.slice a (xs.length+1) c) (xs.length+1) (eB xs++[.int .i64 x]):=by
 show cV.row _ _ _ (xs++[x]).length (eB (xs++[x]))=_
 rw[List.length_append];simp[eB]
theorem Jh(v:Value)(b:fX)(w time:Int)(g:G)(bI:iI g v b)(hb:FO b):CallsIn Wd 0 Tryz.prog 19 #[v,.int .i64 w,.int .i64 time] g.w (cR g fun g' r=> ∃v1 v2,r= .tuple #[v1,v2]∧Rs g' v1 ((jb b w time).map (·.step))∧Rs g' v2 ((jb b w time).map (·.idn))):=by
 have hs:=((St.start g).gI 3 1 none).gI 3 1 none
 have aq:=G.le.refl g
 obtain⟨sl,rfl,jr⟩:=bI
 have bI:iI g (.agg ((List.range 11).map sl).toArray) b:=⟨sl,rfl,jr⟩
 refine enter Tryz.func19 rfl Tryz.ntmps19 rfl ?_
 apply c_
 refine an rfl rfl (aR rfl hs rfl rfl ?_);clear hs;rintro b3 g1 hs ah;obtain⟨aq,bI⟩:=cC ah aq bI
 obtain⟨g2,bR,aU,ah,aL⟩:=hs.a_ (i:=0) rfl;replace hs:=aU;clear aU;rw[←bR];obtain⟨aq,bI⟩:=cC ah aq bI
 have aC:=aL;clear aL
 refine ba rfl ?_;refine aX rfl ?_;apply aB;refine dx 3 [.z aC] (St.start _) rfl ?_
 refine an rfl rfl (ay IV aI rfl rfl rfl rfl rfl (wG _ b w time _ bI hb.size) ?_);rintro g1 _ aN aH;replace hs:=hs.call aN;have ah:=aN.le;obtain⟨aq,aC⟩:=cC ah aq aC
 have x_:=oK hb.size w time
 generalize jb b w time=l at*
 obtain⟨a,c,rfl⟩:=aH.isSlice
 clear aN
 replace hs:St g _ [rI (.slice none 0 0) [],rI (.slice none 0 0) []]:=hs
 refine ba rfl ?_;apply aG
 refine bS (fun m a' w=> ∃(i:Nat) (a8 a9:Option Addr) (c8 c9:Nat) (g':G),w=g'.w∧St g g' [rI (.slice a8 i c8) ((l.take i).map (·.step)),rI (.slice a9 i c9) ((l.take i).map (·.idn))]∧G.le g g'∧Rs g' (.slice a l.length c) l∧i≤l.length∧m=l.length-i∧
   Fr 34 [] [(8,.slice a8 i c8),(9,.slice a9 i c9),(15,.slice a l.length c),(16,.int .i64 (l.length:Nat)),(17,.int .i64 (i:Nat))] a') l.length
  (fun a' ha=>⟨0,none,none,0,0,_,rfl,hs,aq,aH,Nat.zero_le _,rfl,ha.keep (by(repeat (first|exact trivial|refine⟨rfl,?_⟩)))⟩) ?_
 (repeat clear hs);(repeat clear aH);(repeat clear aq);(repeat clear aC)
 rintro m a' _ ⟨i,a8,a9,c8,c9,g',rfl,hs,aq,aH,hi,rfl,eI⟩
 have h1:((l.take i).map (·.step)).length=i:=by rw[List.length_map,List.length_take];omega
 have h2:((l.take i).map (·.idn)).length=i:=by rw[List.length_map,List.length_take];omega
 revert a'
 apply cQ;refine aX rfl ?_;apply aB
 by_cases bh:i<l.length
 ·refine aJ (b:=decide ((i:Int)<(l.length:Int))) (decide_eq_true (by omega)) rfl ?_
  have ic:dA l (i:Int)=some l[i]:=cU rfl bh
  have e1:(l.take (i+1)).map (·.step)=(l.take i).map (·.step)++[l[i].step]:=by
   rw[List.take_add_one,List.getElem?_eq_getElem bh,List.map_append];rfl
  have e2:(l.take (i+1)).map (·.idn)=(l.take i).map (·.idn)++[l[i].idn]:=by
   rw[List.take_add_one,List.getElem?_eq_getElem bh,List.map_append];rfl
  generalize(l.take i).map (·.step)=xs at hs h1 e1
  generalize(l.take i).map (·.idn)=ys at hs h2 e2
  generalize l[i]=x at ic e1 e2
  apply aE;apply au;apply aB;apply aG;apply c_
  refine an rfl rfl (aW T.ok rfl aH (y:=x) ic rfl rfl rfl rfl rfl rfl ?_)
  rintro b9 q9 Kw aL rfl
  have aC:=aL;clear aL
  refine Wm 1 [.e aC 0] (St.start _) rfl ?_
  refine an rfl rfl (aK T.ok rfl hs rfl rfl ?_);clear hs;rintro we g1 hs ah;obtain⟨aq,aH⟩:=cC ah aq aH
  refine bg rfl (aA T.ok 0 rfl hs rfl rfl rfl rfl rfl rfl rfl rfl rfl ?_);replace hs:=hs;rintro g1 hs ah;obtain⟨aq,aH⟩:=cC ah aq aH
  obtain⟨g2,bR,aU,ah,aL⟩:=hs.a_ (i:=0) rfl;replace hs:=aU;clear aU;rw[←bR];obtain⟨aq,aH⟩:=cC ah aq aH
  have aP:=aL;clear aL
  replace hs:St g _ [rI (.slice a8 i c8) xs,rI (.slice a9 i c9) ys]:=hs
  apply cf
  apply lJ (eJ (fe (.f (Fact.rs [x.step]):: .f Fact.any::eJ (fe (.f (Fact.rs [x.idn]):: .f Fact.any::[]))))) 10 [(4,25),(9,30)] [4,9] [[],[]] (mA g (.slice a8 i c8) (.slice a9 i c9) xs ys x.step x.idn) zU (by unfold mA;exact hs.dr) (by kernel_rfl) ⟨cr _,cY,cr _,cY,trivial⟩
  ·refine Um [[],[],[1]] [.z aP] (by kernel_rfl) rfl ?_
   refine bC (cH (js:=[(2,23)]) (by kernel_rfl) rfl fun ρ g8 _ _ hle hJ=>cI rfl (bd (az rfl (bj T.ok rfl (St.start g8) (vs:=[(0,.int .i64 x.step)]) (cells:=[.int .i64 x.step]) rfl rfl rfl rfl rfl rfl (by decide) (by decide) (by kernel_rfl) rfl fun b g' iS _=>?_)))) ?_
   ·obtain⟨g2,e1,e2,e3⟩:=kj (α:=Int) iS (xs:=[x.step]) (cO.ints _ [x.step])
    exact⟨g2,e1,e2,e3⟩
   refine bC (il (js:=[(0,21),(3,24)]) (by kernel_rfl) rfl fun ρ g8 _ _ h3 hle hJ=>cI rfl (cJ fun v5 h5=>bd ⟨rfl,?_⟩)) ?_
   ·unfold mA at hJ;rw[h3]at hJ
    cases h9:ρ 9 with
    |some u=>rw[h9]at hJ;exact hJ.elim
    |none=>
     rw[h9]at hJ
     replace h5:Rs g8 v5 [x.step]:=h5
     obtain⟨a5,c5,rfl⟩:=h5.isSlice
     obtain⟨_,news,hn,gn⟩:=Src.jq h5
     obtain rfl:news=[.int .i64 x.step]:=by obtain⟨k1,k2,rfl,rfl,rfl⟩:=hn;rfl
     refine b_ T.ok 0 rfl hJ rfl rfl rfl rfl rfl rfl rfl (by decide) rfl gn (by simp[Value.oneCell']) (by show((xs).length+1)*8≤_;omega) (by show(xs).length+1≤maxLen;unfold maxLen;omega) fun a' c' g9 FL DV=>⟨g9,rfl,⟨DV,?_⟩,trivial⟩
     have e4:o5 ρ 4 (.slice a' (xs.length+1) c') 4=some (.slice a' (xs.length+1) c'):=if_pos rfl
     have e9:o5 ρ 4 (.slice a' (xs.length+1) c') 9=none:=(if_neg (by decide)).trans h9
     show mA g _ _ xs ys x.step x.idn (o5 ρ 4 (.slice a' (xs.length+1) c')) g9
     unfold mA
     rw[e4,e9]
     refine⟨⟨a',c',rfl⟩,?_⟩
     rw[oN];exact FL
   refine Um [[],[],[6]] [.z aP] (by kernel_rfl) rfl ?_
   refine bC (cH (js:=[(7,28)]) (by kernel_rfl) rfl fun ρ g8 _ _ hle hJ=>cI rfl (bd (az rfl (bj T.ok rfl (St.start g8) (vs:=[(0,.int .i64 x.idn)]) (cells:=[.int .i64 x.idn]) rfl rfl rfl rfl rfl rfl (by decide) (by decide) (by kernel_rfl) rfl fun b g' iS _=>?_)))) ?_
   ·obtain⟨g2,e1,e2,e3⟩:=kj (α:=Int) iS (xs:=[x.idn]) (cO.ints _ [x.idn])
    exact⟨g2,e1,e2,e3⟩
   refine bC (il (js:=[(5,26),(8,29)]) (by kernel_rfl) rfl fun ρ g8 _ Uj h3 hle hJ=>cI rfl (cJ fun v5 h5=>bd ⟨rfl,?_⟩)) ?_
   ·unfold mA at hJ;rw[h3]at hJ
    cases h4:ρ 4 with
    |none=>exact absurd h4 (Uj 4 rfl (by decide))
    |some u=>
     rw[h4]at hJ
     obtain⟨hu,hJ⟩:=hJ
     replace h5:Rs g8 v5 [x.idn]:=h5
     obtain⟨a5,c5,rfl⟩:=h5.isSlice
     obtain⟨_,news,hn,gn⟩:=Src.jq h5
     obtain rfl:news=[.int .i64 x.idn]:=by obtain⟨k1,k2,rfl,rfl,rfl⟩:=hn;rfl
     refine b_ T.ok 1 rfl hJ rfl rfl rfl rfl rfl rfl rfl (by decide) rfl gn (by simp[Value.oneCell']) (by show((ys).length+1)*8≤_;omega) (by show(ys).length+1≤maxLen;unfold maxLen;omega) fun a' c' g9 FL DV=>⟨g9,rfl,⟨DV,?_⟩,trivial⟩
     have e4:o5 ρ 9 (.slice a' (ys.length+1) c') 4=some u:=(if_neg (by decide)).trans h4
     have e9:o5 ρ 9 (.slice a' (ys.length+1) c') 9=some (.slice a' (ys.length+1) c'):=if_pos rfl
     show mA g _ _ xs ys x.step x.idn (o5 ρ 9 (.slice a' (ys.length+1) c')) g9
     unfold mA
     rw[e4,e9]
     refine⟨hu,⟨a',c',rfl⟩,?_⟩
     rw[oN];exact FL
   exact vc
  intro ρ g9 hle hJ dh
  refine fH rfl fun v4 _ r4=>fH rfl fun v9 _ r9=>bd ?_
  unfold mA at hJ;rw[r4,r9]at hJ
  obtain⟨⟨a4,c4,rfl⟩,⟨a5,c5,rfl⟩,hs⟩:=hJ
  have ah:=(G.bJ _).trans hle;obtain⟨aq,aH⟩:=cC ah aq aH
  clear hle dh r4 r9 ρ
  refine Wp 2 rfl ?_;apply aD;apply bU;apply au;apply ar;refine Wp 2 rfl ?_;apply aD
  refine fun a ha=>⟨l.length-(i+1),by omega,i+1,a4,a5,c4,c5,g9,rfl,?_,aq,aH,by omega,rfl,ha.keep ⟨kV rfl (by rw[h1]),kV rfl (by rw[h2]),rfl,rfl,kI rfl (by rw[wr (by omega) (by omega)];omega),trivial⟩⟩
  rw[e1,e2]
  rw[h1,h2]at hs
  exact hs
 ·refine aS (b:=decide ((i:Int)<(l.length:Int))) (decide_eq_false (by omega)) rfl ?_
  obtain rfl:i=l.length:=by omega
  rw[List.take_of_length_le (by omega)]at hs
  have hx:rI (.slice a8 l.length c8) (l.map (·.step))= .row 3 1 (.slice a8 l.length c8) (l.map (·.step)).length (eB (l.map (·.step))):=rfl
  obtain⟨g7,BZ,B0,ah,QC⟩:=hs.cL (α:=Int) (xs:=l.map (·.step)) (i:=0) rfl (cO.ints _ _)
  obtain⟨g8,xD,qO,yc,QD⟩:=B0.cL (α:=Int) (xs:=l.map (·.idn)) (i:=0) rfl (cO.ints _ _)
  rw[←BZ,←xD];(repeat clear hs);have hs:=qO;clear qO B0
  apply bE;apply bK;apply bK;apply dc;apply au;refine aX rfl ?_
  exact aF (rT rfl rfl rfl (hs.ret ⟨_,_,rfl,QC.mono yc,QD⟩))
theorem Ea(x p:bc)(b1:Nat)(g:G)(aC:EP g b1 0 (bW p)):CallsIn Wd 0 Tryz.prog 47 #[fv x,.pointer (some ⟨b1,0,none⟩)] g.w (cR g fun _ r=>r= .bool (x.idn==p.idn)):=by
 have hs:=St.start g
 refine enter Tryz.func47 rfl Tryz.ntmps47 rfl ?_
 apply c_
 refine an rfl rfl (aR rfl hs rfl rfl ?_);clear hs;rintro b2 g1 hs ah;replace aC:=aC.mono ah
 obtain⟨g2,bR,aU,ah,aL⟩:=hs.a_ (i:=0) rfl;replace hs:=aU;clear aU;rw[←bR];replace aC:=aC.mono ah
 have aP:=aL;clear aL
 refine ba rfl ?_;refine nK [.z aP,.z aC] (St.start _) rfl ?_
 exact aF (aV rfl rfl (hs.ret rfl))
def lQ(b:fX)(p:bc):fD:=⟨zV b p.waf p.time,p.step,p.tool,p.cham,p.rcp,p.rvn,p.time⟩
def Ji(b:fX)(p:bc):List bc:=(pF b (lQ b p).waf).takeWhile fun q=> !(q.idn==p.idn)
def Eb(b:fX)(p:bc):Bool:=rn b (lQ b p) (Ji b p) !=0
def zW(b:fX):List Int:=Lib.compact (jJ ((b.procs.filter (Eb b)).map (·.idn)))
theorem Ec{α:Type}{p:α→Bool}: ∀{l:List α},(∀x∈l,p x=false)→l.takeWhile (fun x=> !p x)=l
 |[],_=>rfl
 |x::l,h=>by
  rw[List.takeWhile_cons,h x (List.mem_cons_self ..)]
  show x::_=x::_
  rw[Ec fun y hy=>h y (List.mem_cons_of_mem _ hy)]
theorem Bd{α:Type}{p:α→Bool}: ∀{l:List α} {k:Nat} (h:k<l.length),p l[k]=true→(∀j (h:j<l.length),j<k→p l[j]=false)→l.takeWhile (fun x=> !p x)=l.take k
 |x::l,0,_,hp,_=>by
  have hp:p x=true:=hp
  rw[List.takeWhile_cons,hp];rfl
 |x::l,k+1,h,hp,dy=>by
  have h0:p x=false:=dy 0 (by simp) (by omega)
  rw[List.takeWhile_cons,h0]
  show x::_=x::_
  rw[Bd (k:=k) (by simpa using h) hp fun j hj zO=>dy (j+1) (by simpa using hj) (by omega)]
theorem Gu(v:Value)(b:fX)(g:G)(bI:iI g v b)(hb:FO b)(bM:iw g):CallsIn Wd 0 Tryz.prog 16 #[v] g.w (cR g fun g' r=>Rs g' r (zW b)):=by
 have hs:=(St.start g).gI 3 1 none
 have aq:=G.le.refl g
 obtain⟨sl,rfl,jr⟩:=bI
 have bI:iI g (.agg ((List.range 11).map sl).toArray) b:=⟨sl,rfl,jr⟩
 have aH:Rs g (sl 0) b.procs:=jr 0 (by decide)
 obtain⟨a,c,Nv⟩:=aH.isSlice
 have hlen:b.procs.length≤1000000:=hb.size 0
 refine enter Tryz.func16 rfl Tryz.ntmps16 rfl ?_
 apply c_
 refine an rfl rfl (aR rfl hs rfl rfl ?_);clear hs;rintro b1 g1 hs ah;obtain⟨aq,aH,bI,bM⟩:=dE ah aq aH bI bM
 obtain⟨g2,bR,aU,ah,aL⟩:=hs.a_ (i:=0) rfl;replace hs:=aU;clear aU;rw[←bR];obtain⟨aq,aH,bI,bM⟩:=dE ah aq aH bI bM
 have aC:=aL;clear aL
 replace hs:St g _ [rI (.slice none 0 0) []]:=hs
 refine ba rfl ?_;refine aX rfl ?_;apply aB;refine dx 2 [.z aC] (St.start _) rfl ?_
 refine cE (.slice a b.procs.length c) (t:=10) rfl Nv ?_
 rw[Nv]at aH
 refine ba rfl ?_;apply aG
 refine bS (fun m a' w=> ∃(i:Nat) (a3:Option Addr) (c3:Nat) (xs:List Int) (g':G),w=g'.w∧St g g' [rI (.slice a3 xs.length c3) xs]∧G.le g g'∧Rs g' (.slice a b.procs.length c) b.procs∧EP g' b1 0 ((List.range 11).map sl)∧iI g' (.agg ((List.range 11).map sl).toArray) b∧iw g'∧i≤b.procs.length∧((b.procs.take i).filter (Eb b)).map (·.idn)=xs∧m=b.procs.length-i∧
   Fr 62 [] [(1,.pointer (some ⟨b1,0,none⟩)),(3,.slice a3 xs.length c3),(10,.slice a b.procs.length c),(11,.int .i64 (b.procs.length:Nat)),(12,.int .i64 (i:Nat))] a') b.procs.length
  (fun a' ha=>⟨0,none,0,[],_,rfl,hs,aq,aH,aC,bI,bM,Nat.zero_le _,rfl,rfl,ha.keep (by(repeat (first|exact trivial|refine⟨rfl,?_⟩)))⟩) ?_
 (repeat clear hs);(repeat clear aH);(repeat clear aq);(repeat clear aC);(repeat clear bI);(repeat clear bM)
 rintro m a' _ ⟨i,a3,c3,xs,g',rfl,hs,aq,aH,aC,bI,bM,hi,jm,rfl,eI⟩
 have lG:xs.length≤i:=by rw[←jm,List.length_map];exact Nat.le_trans (List.length_filter_le ..) (by rw[List.length_take];omega)
 revert a'
 apply cQ;refine aX rfl ?_;apply aB
 by_cases bh:i<b.procs.length
 ·refine aJ (b:=decide ((i:Int)<(b.procs.length:Int))) (decide_eq_true (by omega)) rfl ?_
  have ic:dA b.procs (i:Int)=some b.procs[i]:=cU rfl bh
  have cB:((b.procs.take (i+1)).filter (Eb b)).map (·.idn)=xs++(if Eb b b.procs[i]then [b.procs[i].idn]else []):=by
   rw[List.take_add_one,List.getElem?_eq_getElem bh,List.filter_append,List.map_append,jm]
   congr 1
   rw[Option.toList_some,List.filter_cons]
   split<;>rfl
  generalize b.procs[i]=x at ic cB
  clear jm
  apply aE;apply au;apply aB;apply aG;apply c_
  refine an rfl rfl (aW T.ok rfl aH (y:=x) ic rfl rfl rfl rfl rfl rfl ?_)
  rintro b9 q9 Kw aL rfl
  have aP:=aL;clear aL
  refine Wm 1 [.e aP 0] (St.start _) rfl ?_
  refine an rfl rfl (aK T.ok rfl hs rfl rfl ?_);clear hs;rintro b5 g1 hs ah;obtain⟨aq,aC,aP,aH,bI,bM⟩:=iu ah aq aC aP aH bI bM
  refine bg rfl (aA T.ok 0 rfl hs rfl rfl rfl rfl rfl rfl rfl rfl rfl ?_);replace hs:=hs;rintro g1 hs ah;obtain⟨aq,aC,aP,aH,bI,bM⟩:=iu ah aq aC aP aH bI bM
  obtain⟨g2,bR,aU,ah,aL⟩:=hs.a_ (i:=0) rfl;replace hs:=aU;clear aU;rw[←bR];obtain⟨aq,aC,aP,aH,bI,bM⟩:=iu ah aq aC aP aH bI bM
  (repeat clear aP)
  have aP:=aL;clear aL
  replace hs:St g _ [rI (.slice a3 xs.length c3) xs]:=hs
  apply cf;apply aB
  have oh:=hs
  apply ed (fj (fj (eJ (.e (Gl (lQ b x)):: .f (B_ (G.dr _).w.heap.size [.int .i64 0,.int .i64 0,.int .i64 0,.int .i64 0,.int .i64 0,.int .i64 0,.int .i64 0] 41)::[])))) 20 [(18,34),(19,6)] (by kernel_rfl)
  ·refine Dm [[],[],[1],[],[3],[0,2,4],[],[6],[],[8],[],[10],[],[12],[],[14],[],[16]] [.z aC,.z aP,.z aP,.c KX fun g' h=>Ib (.agg ((List.range 11).map sl).toArray) b x.waf x.time g' (bI.mono h) hb.size,.z aP,.z aP,.z aP,.z aP,.z aP,.z aP] hs (by kernel_rfl) rfl ?_
   refine aw (ak (js:=[(5,21),(7,23),(9,25),(11,27),(13,29),(15,31),(17,33)]) (by kernel_rfl) fun gd hf=>ai rfl (ai rfl (ai rfl (ai rfl (ai rfl (ai rfl (ai rfl (aj (az rfl (aQ T.ok rfl (vs:=[(0,.int .i64 (zV b x.waf x.time)),(1,.int .i64 x.step),(2,.int .i64 x.tool),(3,.int .i64 x.cham),(4,.int .i64 x.rcp),(5,.int .i64 x.rvn),(6,.int .i64 x.time)]) (cells:=pE (lQ b x)) rfl rfl rfl rfl [(0,1),(1,1),(2,1),(3,1),(4,1),(5,1),(6,1)] rfl (by kernel_rfl) ⟨gd,rfl,aZ.refl _,rfl⟩)))))))))) ?_
   refine aw (ak (js:=[]) (by kernel_rfl) fun gd hf=>aj (az rfl (aK T.ok rfl (St.start gd) rfl rfl fun b g' iS hle=>⟨g',rfl,iS.mS,b,rfl,Nat.le_trans hf.below.size (iS.own 0 _ rfl).1,(iS.own 0 _ rfl).2⟩))) ?_
   exact fJ
  intro g1 aN;refine ai rfl (aY fun v6 h6=>aj ?_)
  obtain⟨b6,rfl,uS⟩:=h6
  (repeat clear hs)
  have hs:=oh.dr.gJ aN uS;have ah:=(G.bJ _).trans aN.le;obtain⟨aq,aC,aP,aH,bI,bM⟩:=iu ah aq aC aP aH bI bM
  clear oh uS aN
  skip
  refine bg rfl (aA T.ok 0 rfl hs rfl rfl rfl rfl rfl rfl rfl rfl rfl ?_);replace hs:=hs;rintro g1 hs ah;obtain⟨aq,aC,aP,aH,bI,bM⟩:=iu ah aq aC aP aH bI bM
  obtain⟨g2,bR,aU,ah,aL⟩:=hs.a_ (i:=0) rfl;replace hs:=aU;clear aU;rw[←bR];obtain⟨aq,aC,aP,aH,bI,bM⟩:=iu ah aq aC aP aH bI bM
  have dO:=aL;clear aL
  replace hs:St g _ [rI (.slice a3 xs.length c3) xs]:=hs
  apply cf;refine dx 3 [.z aC,.z dO] (St.start _) rfl ?_
  refine an rfl rfl (ay KY aI rfl rfl rfl rfl rfl (D3 _ b (lQ b x).waf _ bI hb.size) ?_)
  rintro g6 _ mY dj;replace hs:=hs.call mY;have ah:=mY.le;obtain⟨aq,aC,aP,dO,aH,bI⟩:=iu ah aq aC aP dO aH bI;replace bM:=bM.mono ah
  have Ku:=qR hb.size (lQ b x).waf
  have Ic:Eb b x=(rn b (lQ b x) ((pF b (lQ b x).waf).takeWhile fun q=> !(q.idn==x.idn)) !=0):=rfl
  generalize pF b (lQ b x).waf=hm at dj Ku Ic
  obtain⟨a7,c7,rfl⟩:=dj.isSlice
  refine ba rfl ?_;apply aB;refine cP 2 rfl ?_
  clear mY
  refine an rfl rfl (ay IS aI rfl rfl rfl rfl rfl (sZ _ _ hm (fun q=>q.idn==x.idn) _ dj (fun g' y _ h=>de (first:=#[]) (args:=[fv y]) (captured:=#[.pointer (some ⟨b5,0,none⟩)]) PJ rfl (Ea y x b5 g' (aP.mono h)))) ?_);rintro g1 _ aN rfl;replace hs:=hs.call aN;have ah:=aN.le;obtain⟨aq,aC,aP,dO,aH,dj⟩:=iu ah aq aC aP dO aH dj;obtain⟨bI,bM⟩:=cC ah bI bM
  clear aN
  refine ba rfl ?_;refine aX rfl ?_
  rcases mb (fun q:bc=>q.idn==x.idn) hm with⟨qD,dy⟩|⟨k,hk,qD,wE,dy⟩
  ·rw[Ec dy]at Ic
   refine aS (b:=decide (0≤lu (fun q:bc=>q.idn==x.idn) hm)) (by rw[qD];rfl) rfl ?_
   apply aE;apply au;refine dx 3 [.z aC,.z dO] (St.start _) rfl ?_
   refine an rfl rfl (ay IT aI rfl rfl rfl rfl rfl (zT _ _ b (lQ b x) (hm) _ bI dj hb Ku bM) ?_)
   rintro g8 _ D5 rfl;replace hs:=hs.call D5;have ah:=D5.le;obtain⟨aq,aC,aP,dO,aH,dj⟩:=iu ah aq aC aP dO aH dj;obtain⟨bI,bM⟩:=cC ah bI bM
   refine ba rfl ?_
   rw[Ic]at cB
   cases hz:(rn b (lQ b x) (hm) !=0)with
   |false=>
    rw[hz]at cB
    refine aS rfl rfl ?_
    apply aE;apply bU;apply au;apply ar;refine Wp 2 rfl ?_;apply aD
    exact fun a ha=>⟨b.procs.length-(i+1),by omega,i+1,a3,c3,xs,_,rfl,hs,aq,aH,aC,bI,bM,by omega,by rw[cB];exact List.append_nil _,rfl,ha.keep ⟨rfl,rfl,rfl,rfl,kI rfl (by rw[wr (by omega) (by omega)];omega),trivial⟩⟩
   |true=>
    rw[hz]at cB
    refine aJ rfl rfl ?_
    apply ar;refine Wm 3 [.z aP] (St.start _) rfl ?_
    refine an rfl rfl (bj T.ok rfl hs (vs:=[(0,.int .i64 x.idn)]) (cells:=[.int .i64 x.idn]) rfl rfl rfl rfl rfl rfl (by decide) (by decide) (by kernel_rfl) rfl ?_);rintro BO g9 hs ah;obtain⟨aq,aC,aP,dO,aH,dj⟩:=iu ah aq aC aP dO aH dj;obtain⟨bI,bM⟩:=cC ah bI bM
    skip
    refine an rfl rfl (b_ T.ok 1 rfl hs rfl rfl rfl rfl rfl rfl rfl (by decide) rfl (Src.gK (hs.own 0 _ rfl).1).2 (by simp[Value.oneCell']) (by show(xs.length+1)*8≤_;omega) (by show xs.length+1≤maxLen;unfold maxLen;omega) ?_);rintro a6 c6 g10 hs ah;obtain⟨aq,aC,aP,dO,aH,dj⟩:=iu ah aq aC aP dO aH dj;obtain⟨bI,bM⟩:=cC ah bI bM
    replace hs:St g g10 [rI (.slice a6 (xs.length+1) c6) (xs++[x.idn])]:=by rw[oN];exact hs.drop 0
    refine Wp 1 rfl ?_;apply aD;apply bU;apply au;apply ar;refine Wp 2 rfl ?_;apply aD
    exact fun a ha=>⟨b.procs.length-(i+1),by omega,i+1,a6,c6,xs++[x.idn],_,rfl,by rw[show(xs++[x.idn]).length=xs.length+1 from by simp];exact hs,aq,aH,aC,bI,bM,by omega,cB,rfl,ha.keep ⟨rfl,kV rfl (by simp),rfl,rfl,kI rfl (by rw[wr (by omega) (by omega)];omega),trivial⟩⟩
  ·rw[Bd hk wE dy]at Ic
   refine aJ (b:=decide (0≤lu (fun q:bc=>q.idn==x.idn) hm)) (by rw[qD];simp) rfl ?_
   rw[qD]
   apply ar;refine Wp 2 rfl ?_
   obtain⟨_,QE,HX⟩:=dj.oL
   refine an rfl rfl (j2 T.ok rfl rfl rfl rfl rfl (a:=0) (b:=k) rfl ⟨_,rfl⟩ (by omega) (by omega) ?_)
   replace dj:=dj.cut (a:=0) (b:=k) (by omega) (by omega)
   rw[List.drop_zero]at dj
   refine ba rfl ?_;refine dx 3 [.z aC,.z dO] (St.start _) rfl ?_
   refine an rfl rfl (ay IT aI rfl rfl rfl rfl rfl (zT _ _ b (lQ b x) (hm.take k) _ bI dj hb (by rw[List.length_take];omega) bM) ?_)
   rintro g8 _ D5 rfl;replace hs:=hs.call D5;have ah:=D5.le;obtain⟨aq,aC,aP,aH,bI,bM⟩:=iu ah aq aC aP aH bI bM
   refine ba rfl ?_
   rw[Ic]at cB
   cases hz:(rn b (lQ b x) (hm.take k) !=0)with
   |false=>
    rw[hz]at cB
    refine aS rfl rfl ?_
    apply aE;apply bU;apply au;apply ar;refine Wp 2 rfl ?_;apply aD
    exact fun a ha=>⟨b.procs.length-(i+1),by omega,i+1,a3,c3,xs,_,rfl,hs,aq,aH,aC,bI,bM,by omega,by rw[cB];exact List.append_nil _,rfl,ha.keep ⟨rfl,rfl,rfl,rfl,kI rfl (by rw[wr (by omega) (by omega)];omega),trivial⟩⟩
   |true=>
    rw[hz]at cB
    refine aJ rfl rfl ?_
    apply ar;refine Wm 3 [.z aP] (St.start _) rfl ?_
    refine an rfl rfl (bj T.ok rfl hs (vs:=[(0,.int .i64 x.idn)]) (cells:=[.int .i64 x.idn]) rfl rfl rfl rfl rfl rfl (by decide) (by decide) (by kernel_rfl) rfl ?_);rintro BO g9 hs ah;obtain⟨aq,aC,aH,bI,bM⟩:=kN ah aq aC aH bI bM
    skip
    refine an rfl rfl (b_ T.ok 1 rfl hs rfl rfl rfl rfl rfl rfl rfl (by decide) rfl (Src.gK (hs.own 0 _ rfl).1).2 (by simp[Value.oneCell']) (by show(xs.length+1)*8≤_;omega) (by show xs.length+1≤maxLen;unfold maxLen;omega) ?_);rintro a6 c6 g10 hs ah;obtain⟨aq,aC,aH,bI,bM⟩:=kN ah aq aC aH bI bM
    replace hs:St g g10 [rI (.slice a6 (xs.length+1) c6) (xs++[x.idn])]:=by rw[oN];exact hs.drop 0
    refine Wp 1 rfl ?_;apply aD;apply bU;apply au;apply ar;refine Wp 2 rfl ?_;apply aD
    exact fun a ha=>⟨b.procs.length-(i+1),by omega,i+1,a6,c6,xs++[x.idn],_,rfl,by rw[show(xs++[x.idn]).length=xs.length+1 from by simp];exact hs,aq,aH,aC,bI,bM,by omega,cB,rfl,ha.keep ⟨rfl,kV rfl (by simp),rfl,rfl,kI rfl (by rw[wr (by omega) (by omega)];omega),trivial⟩⟩
 ·refine aS (b:=decide ((i:Int)<(b.procs.length:Int))) (decide_eq_false (by omega)) rfl ?_
  rw[List.take_of_length_le (by omega)]at jm
  apply bE;apply bK;apply bK;apply dc;apply au;refine cP 1 rfl ?_
  refine an rfl rfl (dv IU aI rfl rfl rfl rfl rfl (zR (zs:=xs) (by omega) hs) ?_)
  (repeat clear hs)
  rintro g11 _ ah ⟨rfl,hs⟩
  apply cf;refine cP 1 rfl ?_
  refine an rfl rfl (dv SI aI rfl rfl rfl rfl rfl (nO (zs:=jJ xs) hs) ?_)
  (repeat clear hs)
  rintro g12 _ ah ⟨rfl,hs⟩
  obtain⟨g13,pI,pJ,ah,py⟩:=hs.cL (α:=Int) (i:=0) rfl (cO.ints _ _)
  rw[←pI];(repeat clear hs);have hs:=pJ;clear pJ;clear pI
  refine ba rfl ?_
  refine aF (aV rfl rfl (hs.ret ?_))
  unfold zW
  rw[jm];exact py
end Go.Proofs.YtebobfdheanknaaGreatDoor
namespace Go.K
open Go Go.RowKit
variable {F:Fence} {P:Program} {N:Nat} {ds:List Deferred} {l l':Env} {a:Act} {w:World} {Q:Exit→Act→World→Prop} {ops:Array Oper} {os:List Oper} {o:Oper}
variable {g0 g:G} {L L':List cV} {K:Value→World→Prop} {R:Ending→World→Prop}
theorem nu{α:Type}[El α]{tb:Tb}(dn:tb.ok P){t e:Nat}{ti ei:TI}{s x:Operand}{ad J0:Option Addr}{n m c2:Nat}{xs ys:List α}
  (ho:o.op= .call {callee:=.builtin .append,args:=#[s,x],argTypes:=#[t,t]}) (hv:ev l s=some (.slice ad n n)) (hx:ev l x=some (.slice J0 m c2)) (h1:Rs g (.slice ad n n) xs) (h2:Rs g (.slice J0 m c2) ys)
  (hn:n≠0) (hm:m≠0) (hi:tl tb t=some ti) (hd:ti.desc= .slice e) (hj:tl tb e=some ei) (hk:ei.size=El.k α) (hz:ei.zero.cells.size=El.k α) (hb:(n+m)*ei.bytes≤140737488355328) (AV:n+m≤maxLen)
  (kk: ∀v g',aZ g g'→Rs g' v (xs++ys)→K v g'.w):cT F P N ds o l g.w Q K:=by
 obtain⟨⟨dd,C5,he⟩,_⟩:=dn.at hi
 rw[hd]at he
 obtain rfl:=KD.of_slice he
 obtain⟨_,inf,e1,e2,e3,e4⟩:=dn.at hj
 obtain⟨jn,J1,se,mK⟩:=Src.jq h1
 obtain⟨xV,news,xF,aU⟩:=Src.jq h2
 obtain⟨b1,p1,rfl,QE⟩:=mK.2.resolve_left hn
 obtain⟨b2,p2,rfl,HX⟩:=aU.2.resolve_left hm
 obtain⟨v',w',jf,dZ,hg⟩:=run_append_arg_grows (P:=P) g.w t o.type e inf ei.zero (El.k α) ei.bytes C5 e1 e4 (by rw[e2,hk]) e3 hz (El.pos (α:=α)) ⟨b1,p1,none⟩ n n J1 mK.1
  (fun j u hu=>by rw[Addr.add_lit];exact QE j u hu) ⟨b2,p2,none⟩ m c2 news aU.1 (fun j u hu=>by rw[Addr.add_lit];exact HX j u hu) (by omega) AV hb
 have hf:=CC (g:=g) hg
 have hlen:n+m=(xs++ys).length:=by rw[List.length_append,←jn,←xV]
 have hO:jZ e g (xs++ys) (⟨w',g.im,fun b h=>Nat.lt_of_lt_of_le (g.lt b h) hg.size⟩:G) v':=by
  refine⟨J1++news,⟨?_,fun b hb hi=>?_⟩,cO.app (xF.mono hf.le) (se.mono hf.le)⟩
  ·rw[←hlen];exact Row.q7 dZ
  ·have:=G9 dZ b hb
   have:=g.lt b hi
   omega
 obtain⟨g2,bR,xd,sb,py⟩:=(St.start g).mZ hf hO
 refine fE ho (w':=w') (fun a ha=>?_) (by have h:=kk v' g2 xd.mS py;rw[bR]at h;exact h)
 simp[resolve,invoke,builtin,ha.ev hv,ha.ev hx,jf]
end Go.K
namespace Go.Proofs.YtebobfdheanknaaGreatDoor
open Go Go.K
set_option maxRecDepth 10000
attribute [local irreducible] W WL cT cn bX bA bB bD cW cG
set_option maxHeartbeats 1000000
theorem Yk(v:Value)(l:List Int)(n:Int)(g:G)(aH:Rs g v l):CallsIn Wd 0 Tryz.prog 30 #[v,.int .i64 n] g.w (cR g fun _ r=>r= .bool (l.contains n)):=by
 have hs:=St.start g
 obtain⟨a,c,rfl⟩:=aH.isSlice
 have hlen:=aH.dU
 unfold maxLen at hlen
 refine enter Tryz.func30 rfl Tryz.ntmps30 rfl ?_
 refine aX rfl ?_;apply aB;refine aX rfl ?_;apply aG
 refine bS (fun m a' w=> ∃(i:Nat),w=g.w∧i≤l.length∧(l.take i).contains n=false∧m=l.length-i∧
   Fr 18 [] [(0,.slice a l.length c),(1,.int .i64 n),(5,.int .i64 (i:Nat))] a') l.length
  (fun a' ha=>⟨0,rfl,Nat.zero_le _,by simp,rfl,ha.keep (by(repeat (first|exact trivial|refine⟨rfl,?_⟩)))⟩) ?_
 rintro m a' _ ⟨i,rfl,hi,dy,rfl,eI⟩
 revert a'
 apply cQ;apply aB;refine aX rfl ?_
 by_cases bh:i<l.length
 ·refine aJ (b:=decide ((i:Int)<(l.length:Int))) (decide_eq_true (by omega)) rfl ?_
  have ic:dA l (i:Int)=some l[i]:=cU rfl bh
  have cB:l.take (i+1)=l.take i++[l[i]]:=by rw[List.take_add_one,List.getElem?_eq_getElem bh];rfl
  have qQ:l[i]∈l:=List.getElem_mem bh
  generalize l[i]=x at*
  apply aE;apply au;apply aB;apply aG;refine cP 2 rfl ?_
  refine an rfl rfl (aW T.ok rfl aH (y:=x) ic rfl rfl rfl rfl rfl rfl ?_)
  rintro b p ys aL eK
  obtain rfl:ys=[.int .i64 x]:=eK
  have aC:=aL
  refine A3 [.e aC 0] (St.start _) rfl ?_
  by_cases hx:x=n
  ·subst hx
   refine aJ (b:=x==x) (by simp) rfl ?_
   refine aX rfl ?_
   exact aF (aV rfl rfl (hs.ret (by simp[qQ])))
  ·refine aS (b:=x==n) (by simp[hx]) rfl ?_
   apply aE;apply bU;apply au;apply ar;refine Wp 3 rfl ?_;apply aD
   exact fun a ha=>⟨l.length-(i+1),by omega,i+1,rfl,by omega,by rw[cB];simp at dy⊢;exact⟨dy,fun h=>hx h.symm⟩,rfl,ha.keep ⟨rfl,rfl,kI rfl (by rw[wr (by omega) (by omega)];omega),trivial⟩⟩
 ·refine aS (b:=decide ((i:Int)<(l.length:Int))) (decide_eq_false (by omega)) rfl ?_
  rw[List.take_of_length_le (by omega)]at dy
  apply bE;apply bK;apply bK;apply dc;apply au;refine aX rfl ?_
  exact aF (aV rfl rfl (hs.ret (by rw[dy])))
def putAt(l:List Int)(n:Int):Nat:=(l.takeWhile fun x=>decide (x<n)).length
def yg(l:List Int)(n:Int):List Int:=if l[putAt l n]? =some n then l else l.take (putAt l n)++n::l.drop (putAt l n)
end Go.Proofs.YtebobfdheanknaaGreatDoor
namespace Go.Proofs.YtebobfdheanknaaGreatDoor
open Go Go.K
set_option maxRecDepth 10000
attribute [local irreducible] W WL cT cn bX bA bB bD cW cG
set_option maxHeartbeats 1000000
def j3(f:bV)(h:List bc):List Int:=
 match h.getLast? with
 |none=>[0]
 |some x=>match dA f.steps x.step with
  |none=>[]
  |some s=>if decide (0≤s.back)&&decide (uQ (some f) h x.step<s.dF)then yg s.next s.back else s.next
def SL(f:bV):Prop:=∀s∈f.steps,s.next.length≤100000
end Go.Proofs.YtebobfdheanknaaGreatDoor
namespace Go.Proofs.YtebobfdheanknaaGreatDoor
open Go Go.K
set_option maxRecDepth 10000
attribute [local irreducible] W WL cT cn bX bA bB bD cW cG
set_option maxHeartbeats 1000000
def yn(s:Step)(tool idn waf step time:Int):bc:=⟨1,idn,1,0,false,time,IntKind.i64.wrap (time+s.min),waf,0,0,0,tool,0,step,s.dD,1,0,0,[]⟩
theorem Jq(v:Value)(f:bV)(s:Step)(tool idn waf step time:Int)(g:G)(fk:fA g v f)(dm:dA f.steps step=some s)(ht:s.dB[0]? =some tool):CallsIn Wd 0 Tryz.prog 34 #[v,.int .i64 idn,.int .i64 waf,.int .i64 step,.int .i64 time] g.w (cR g fun _ r=>r=fv (yn s tool idn waf step time)):=by
 have hs:=St.start g
 have aq:=G.le.refl g
 obtain⟨a1,n1,c1,a2,n2,c2,rfl,aT,bT⟩:=fk
 clear bT
 obtain⟨_,_,e⟩:=aT.isSlice;obtain⟨rfl,rfl,rfl⟩:=Value.slice.inj e;clear e
 refine enter Tryz.func34 rfl Tryz.ntmps34 rfl ?_
 apply c_
 refine an rfl rfl (aR rfl hs rfl rfl ?_);clear hs;rintro b5 g1 hs ah;replace aT:=aT.mono ah
 obtain⟨g2,bR,aU,ah,aL⟩:=hs.a_ (i:=0) rfl;replace hs:=aU;clear aU;rw[←bR];replace aT:=aT.mono ah
 have aC:=aL;clear aL
 skip
 refine an rfl rfl (aK T.ok rfl hs rfl rfl ?_);clear hs;rintro IL g1 hs ah;obtain⟨aC,aT⟩:=cC ah aC aT
 apply cf;refine dx 3 [.z aC] (St.start _) rfl ?_
 refine an rfl rfl (aW T.ok rfl aT (y:=s) dm rfl rfl rfl rfl rfl rfl ?_)
 rintro b6 q6 ys aL eK
 obtain⟨a7,n7,c7,a8,n8,c8,rfl,eg,fq⟩:=eK
 clear fq
 have dO:=aL;clear aL
 refine Wm 1 [.e dO 0] (St.start _) rfl ?_
 refine an rfl rfl (aK T.ok rfl hs rfl rfl ?_);clear hs;rintro we g1 hs ah;replace eg:=eg.mono ah
 refine bg rfl (aA T.ok 0 rfl hs rfl rfl rfl rfl rfl rfl rfl rfl rfl ?_);replace hs:=hs;rintro g1 hs ah;replace eg:=eg.mono ah
 obtain⟨g2,bR,aU,ah,aL⟩:=hs.a_ (i:=0) rfl;replace hs:=aU;clear aU;rw[←bR];replace eg:=eg.mono ah
 have aP:=aL;clear aL
 apply cf;apply aB
 obtain⟨rfl,_,_⟩:=eg.oL
 obtain⟨b0,p0,ys,rfl,mg,hx⟩:=eg.at (i:=0) ht
 obtain rfl:ys=[.int .i64 tool]:=hx
 have bh:0<s.dB.length:=(List.getElem?_eq_some_iff.1 ht).1
 apply bO hs (fj (gE (eJ (.e (fv (yn s tool idn waf step time))::[])))) 15 [(14,31)] (by kernel_rfl) rfl
 ·refine Dm [[],[],[],[2]] [.z aP] hs (by kernel_rfl) rfl ?_
  refine aw (ak (js:=[(3,20)]) (by kernel_rfl) fun gd hf=>ai rfl (aj (az rfl (fT T.ok rfl rfl rfl (by omega) bh rfl rfl rfl ⟨gd,rfl,aZ.refl _,rfl⟩)))) ?_
  refine Dm [[4],[],[],[7],[],[],[],[11],[10,12]] [.e mg 0,.z aP,.z aP] hs (by kernel_rfl) rfl ?_
  refine aw (ak (js:=[(0,17),(1,18),(5,22),(6,23),(8,25),(9,26),(13,30)]) (by kernel_rfl) fun gd hf=>ai rfl (ai rfl (ai rfl (ai rfl (ai rfl (ai rfl (ai rfl (aj (az rfl (aQ T.ok rfl (vs:=[(0,.int .i64 1),(2,.int .i64 1),(1,.int .i64 idn),(7,.int .i64 waf),(11,.int .i64 tool),(13,.int .i64 step),(14,.int .i64 s.dD),(15,.int .i64 1),(5,.int .i64 time),(6,.int .i64 (IntKind.i64.wrap (time+s.min)))]) (cells:=bW (yn s tool idn waf step time)) rfl rfl rfl rfl [(0,1),(1,1),(2,1),(3,1),(4,1),(5,1),(6,1),(7,1),(8,1),(9,1),(10,1),(11,1),(12,1),(13,1),(14,1),(15,1),(16,1),(17,1),(18,1)] rfl (by kernel_rfl) ⟨gd,rfl,aZ.refl _,rfl⟩)))))))))) ?_
  exact fJ
 (repeat clear hs);intro g6 hs ah
 skip
 refine bg rfl (aA T.ok 0 rfl hs rfl rfl rfl rfl rfl rfl rfl rfl rfl ?_);replace hs:=hs;rintro g1 hs ah
 apply cf
 exact aF (kJ T.ok 0 rfl hs rfl rfl rfl (hs.ret rfl))
end Go.Proofs.YtebobfdheanknaaGreatDoor
namespace Go.Proofs.YtebobfdheanknaaGreatDoor
open Go
theorem xu: ∀(k n:Nat),n<10^(k+1)→(dec n).length≤k+1
 |0,n,h=>by rw[gX (by omega)];simp
 |k+1,n,h=>by
  by_cases h1:n<10
  ·rw[gX h1];simp
  ·rw[mw h1,List.length_append]
   have:=xu k (n/10) (by rw[Nat.pow_succ]at h;omega)
   simp only[List.length_cons,List.length_nil];omega
theorem dw{n:Int}(h:mI n):(cX n).length≤7:=xu 6 n.toNat (by have:=h.1;have:=h.2;simp;omega)
theorem ur{a b:Int}(h1:mI a)(h2:mI b):(nE a b).length≤16:=by
 have:=dw h1;have:=dw h2
 unfold nE;simp only[List.length_append,List.length_cons];omega
theorem oZ{c:UInt8}{k:Nat}: ∀{l:List (List UInt8)},(∀x∈l,x.length≤k)→(gw c l).length≤l.length*(k+1)
 |[],_=>Nat.zero_le _
 |[x],h=>by have:=h x (by simp);simp only[gw,List.length_cons,List.length_nil];omega
 |x::y::r,h=>by
  have h1:=h x (by simp)
  have h2:=oZ (c:=c) (l:=y::r) fun z hz=>h z (List.mem_cons_of_mem _ hz)
  rw[show gw c (x::y::r)=x++c::gw c (y::r)from rfl,List.length_append,List.length_cons]
  simp only[List.length_cons,Nat.add_mul,Nat.one_mul]at h2⊢
  omega
theorem nW{l:List Int}(h: ∀n∈l,mI n):(jv l).length≤l.length*8+1:=by
 unfold jv
 split
 ·simp
 ·have:=oZ (c:=44) (l:=l.map cX) (k:=7) fun x hx=>by obtain⟨n,hn,rfl⟩:=List.mem_map.1 hx;exact dw (h n hn)
  rw[List.length_map]at this;omega
def dW:List UInt8:=[115,116,101,112,32]
def cF:List UInt8:=[32,114,101,99,105,112,101,32]
def du:List UInt8:=[32,116,111,111,108,115,32]
def eC:List UInt8:=[32,116,105,109,101,32]
def e_:List UInt8:=[32,110,101,120,116,32]
def fb:List UInt8:=[32,98,97,99,107,32]
def AF:List UInt8:=[32,108,105,109,105,116,32]
def db:List UInt8:=[119,105,110,100,111,119,32]
def eR:List UInt8:=[109,111,118,101,32]
def uu(i:Nat)(s:Step):List UInt8:=dW++dec i++cF++cX s.dD++du++jv s.dB++eC++nE s.min s.max++e_++jv s.next
def yU(s:Step):List UInt8:=if 0≤s.back then fb++cX s.back++AF++cX s.dF else []
theorem nF(i:Nat)(s:Step):jh i s=uu i s++yU s:=by
 unfold jh ID uu yU
 by_cases h:0≤s.back
 ·rw[if_pos h,if_pos h]
  simp[gw,nB,lf,nC,rA,rB,qg,mx,dW,cF,du,eC,e_,fb,AF]
 ·rw[if_neg h,if_neg h]
  simp[gw,nB,lf,nC,rA,rB,dW,cF,du,eC,e_]
theorem ov(w:cj):gi w=db++cX w.src++[32]++cX w.dst++[32]++cX w.dF:=by
 unfold gi BD
 simp[gw,gY,db]
theorem rC(a b:Int):kH a b=eR++nE a b:=by
 unfold kH IE
 simp[gw,nD,eR]
def gj:Nat→List Step→List UInt8
 |_,[]=>[]
 |k,s::r=>jh k s++10::gj (k+1) r
def jY:List cj→List UInt8
 |[]=>[]
 |w::r=>gi w++10::jY r
def tD(f:bV):List UInt8:=kH f.ck f.cu++10::(gj 0 f.steps++jY f.windows)
theorem Fc{lo hi:Int}: ∀{l:List Int} {p:Int},kU lo hi p l=true→ ∀n∈l,lo≤n∧n≤hi
 |[],_,_,_,hn=>by cases hn
 |m::r,p,h,n,hn=>by
  unfold kU within at h
  simp only[Bool.and_eq_true,decide_eq_true_eq]at h
  rcases List.mem_cons.1 hn with rfl|hn
  ·exact h.1.1
  ·exact Fc h.2 n hn
theorem qh{lo hi:Int}{l:List Int}(h:ascending l lo hi=true): ∀n∈l,lo≤n∧n≤hi:=by
 cases l with
 |nil=>intro n hn;cases hn
 |cons m r=>
  unfold ascending within at h
  simp only[Bool.and_eq_true,decide_eq_true_eq]at h
  intro n hn
  rcases List.mem_cons.1 hn with rfl|hn
  ·exact h.1
  ·exact Fc h.2 n hn
structure vT(s:Step):Prop where
 n:OB s
 dB:s.dB.length≤8
 next:s.next.length≤4
theorem yV{s:Step}{n:Int}(hn:n≤1000000)(h:cg s n=true):vT s:=by
 unfold cg within at h
 simp only[Bool.and_eq_true,Bool.or_eq_true,decide_eq_true_eq,beq_iff_eq]at h
 obtain⟨⟨⟨⟨⟨⟨⟨h1,h2,h3⟩,h4⟩,h5⟩,h6⟩,h7⟩,h8⟩,h9⟩:=h
 have ht:=qh h5
 have hx:=qh h6
 refine⟨⟨⟨by omega,by omega⟩,fun e=>?_,fun n hn=>?_,⟨by omega,by omega⟩,⟨by omega,by omega⟩,fun n hn=>?_,?_⟩,by omega,by omega⟩
 ·rw[e]at h2;simp at h2
 ·have:=ht n hn;exact⟨by omega,by omega⟩
 ·have:=hx n hn;exact⟨by omega,by omega⟩
 ·rcases h1 with h|⟨h,h'⟩
  ·exact .inl h
  ·exact .inr ⟨⟨by omega,by omega⟩,⟨by omega,by omega⟩⟩
theorem u7{w:cj}{n:Int}(hn:n≤1000000)(h:dS w n=true):mI w.src∧mI w.dst∧mI w.dF:=by
 unfold dS within at h
 simp only[Bool.and_eq_true,decide_eq_true_eq]at h
 obtain⟨⟨⟨h1,h2⟩,_⟩,h3⟩:=h
 exact⟨⟨by omega,by omega⟩,⟨by omega,by omega⟩,⟨by omega,by omega⟩⟩
theorem qi{f:bV}(h:eh f=true):mI f.ck∧mI f.cu:=by
 unfold eh at h
 simp only[Bool.and_eq_true,decide_eq_true_eq]at h
 exact⟨⟨by omega,by omega⟩,⟨by omega,by omega⟩⟩
theorem uv{n:Int}: ∀{l pre:List cj},ek n pre l=true→ ∀w∈l,dS w n=true
 |[],_,_,_,hw=>by cases hw
 |v::r,pre,h,w,hw=>by
  unfold ek at h
  simp only[Bool.and_eq_true]at h
  rcases List.mem_cons.1 hw with rfl|hw
  ·exact h.1.1
  ·exact uv h.2 w hw
structure OC(f:bV):Prop where
 min:mI f.ck
 max:mI f.cu
 n1:1≤f.steps.length
 n40:f.steps.length≤40
 steps: ∀s∈f.steps,vT s
 Vz:f.windows.length≤20
 J9: ∀w∈f.windows,mI w.src∧mI w.dst∧mI w.dF
theorem Hi{f:bV}(h:valid f=true):OC f:=by
 unfold valid within at h
 simp only[Bool.and_eq_true,decide_eq_true_eq,List.all_eq_true]at h
 obtain⟨⟨⟨⟨h1,h2,h3⟩,h4⟩,h5⟩,h6⟩:=h
 exact⟨(qi h1).1,(qi h1).2,by omega,by omega,fun s hs=>yV (by omega) (h5 s hs),by omega,fun w hw=>u7 (by omega) (uv h6 w hw)⟩
theorem rf{i:Nat}{s:Step}(hi:i≤1000000)(h:vT s):(uu i s).length≤160:=by
 have h1:=xu 6 i (by simp;omega)
 have h2:=dw h.n.dD
 have h3:=nW h.n.Av
 have h4:=nW h.n.next
 have h5:=ur h.n.min h.n.max
 have:=h.dB;have:=h.next
 unfold uu dW cF du eC e_
 simp only[List.length_append,List.length_cons,List.length_nil]
 omega
theorem vU{s:Step}(h:vT s):(yU s).length≤27:=by
 unfold yU
 split
 ·rename_i hb
  rcases h.n.back with⟨e,_⟩|⟨h1,h2⟩
  ·omega
  ·have:=dw h1;have:=dw h2
   unfold fb AF
   simp only[List.length_append,List.length_cons,List.length_nil];omega
 ·simp
theorem nG{w:cj}(h:mI w.src∧mI w.dst∧mI w.dF):(gi w).length≤30:=by
 have:=dw h.1;have:=dw h.2.1;have:=dw h.2.2
 rw[ov]
 unfold db
 simp only[List.length_append,List.length_cons,List.length_nil];omega
theorem xv{a b:Int}(h1:mI a)(h2:mI b):(kH a b).length≤21:=by
 have:=ur h1 h2
 rw[rC]
 unfold eR
 simp only[List.length_append,List.length_cons,List.length_nil];omega
theorem uw: ∀{l:List Step} {k:Nat},k+l.length≤1000000→(∀s∈l,vT s)→(gj k l).length≤l.length*188
 |[],_,_,_=>Nat.zero_le _
 |s::r,k,hk,h=>by
  rw[List.length_cons]at hk
  have h1:=rf (i:=k) (by omega) (h s (by simp))
  have h2:=vU (h s (by simp))
  have h3:=uw (l:=r) (k:=k+1) (by omega) fun s hs=>h s (List.mem_cons_of_mem _ hs)
  unfold gj
  rw[nF]
  simp only[List.length_append,List.length_cons]
  omega
theorem vV: ∀{l:List cj},(∀w∈l,mI w.src∧mI w.dst∧mI w.dF)→(jY l).length≤l.length*31
 |[],_=>Nat.zero_le _
 |w::r,h=>by
  have h1:=nG (h w (by simp))
  have h3:=vV (l:=r) fun s hs=>h s (List.mem_cons_of_mem _ hs)
  unfold jY
  simp only[List.length_append,List.length_cons]
  omega
theorem Xi{f:bV}(h:OC f):(tD f).length≤8192:=by
 have h1:=xv h.min h.max
 have h2:=uw (k:=0) (by have:=h.n40;omega) h.steps
 have h3:=vV h.J9
 have:=h.n40;have:=h.Vz
 unfold tD
 simp only[List.length_append,List.length_cons]
 omega
def aO(c n:Int):Int:=(if c<0 then -(c+1)else c).tmod n
theorem dq{c n:Int}(hn:0<n):0≤aO c n∧aO c n<n:=by
 unfold aO
 have h:0≤(if c<0 then -(c+1)else c):=by split<;>omega
 exact⟨Int.tmod_nonneg _ h,Int.tmod_lt_of_pos _ hn⟩
theorem lS{c n:Int}(h:mH c)(hn:0<n):mH (c.tdiv n):=by
 unfold mH at h⊢
 rcases Int.lt_or_le c 0 with h0|h0
 ·have h1:0≤(-c).tdiv n:=Int.tdiv_nonneg (by omega) (by omega)
  have h2:(-c).tdiv n≤ -c:=Int.tdiv_le_self _ (by omega)
  rw[Int.neg_tdiv]at h1 h2
  omega
 ·have h1:0≤c.tdiv n:=Int.tdiv_nonneg h0 (by omega)
  have h2:c.tdiv n≤c:=Int.tdiv_le_self _ h0
  omega
structure Y6 where
 y0:Int
 y1:Int
 y2:Int
 y3:Int
 y4:Int
 y5:Int
structure Y6.fit(y:Y6):Prop where
 h0:mH y.y0
 h1:mH y.y1
 h2:mH y.y2
 h3:mH y.y3
 h4:mH y.y4
 h5:mH y.y5
structure Y3 where
 z0:Int
 z1:Int
 z2:Int
structure Y3.fit(z:Y3):Prop where
 h0:mH z.z0
 h1:mH z.z1
 h2:mH z.z2
def yj:Y6:=⟨0,0,0,0,0,0⟩
theorem Hj:yj.fit:=⟨⟨by decide,by decide⟩,⟨by decide,by decide⟩,⟨by decide,by decide⟩,⟨by decide,by decide⟩,⟨by decide,by decide⟩,⟨by decide,by decide⟩⟩
def fP(y:Y6):List Int:=aO y.y2 6::if aO (y.y2.tdiv 6) 2=0 then [aO y.y2 6+1+aO (y.y2.tdiv 12) 3]else []
def gL(y:Y6)(n i:Nat):List Int:=
 if(i:Int)<n-1∧0<aO y.y3 12 then
  ((i:Int)+1)::if(i:Int)+2+aO (y.y3.tdiv 12) 3<n∧aO (y.y3.tdiv 36) 3=0 then [(i:Int)+2+aO (y.y3.tdiv 12) 3]else []
 else []
def oM(y:Y6)(n i:Nat):Step:=
 ⟨1+aO y.y0 5,fP y,1+aO y.y1 30,1+aO y.y1 30+aO (y.y1.tdiv 30) 20,gL y n i,if aO y.y4 4=0 then aO (y.y4.tdiv 4) (i+1)else -1,if aO y.y4 4=0 then 1+aO y.y5 3 else 0⟩
def eM(x:List Y6):Nat:=max 1 (min x.length 8)
theorem vx(x:List Y6):1≤eM x∧eM x≤8:=by unfold eM;omega
def j6(x:List Y6)(k:Nat):List Step:=(List.range k).map fun i=>oM (x.getD i yj) (eM x) i
theorem xw(x:List Y6)(k:Nat):j6 x (k+1)=j6 x k++[oM (x.getD k yj) (eM x) k]:=by
 unfold j6;rw[List.range_succ,List.map_append];rfl
theorem yi(x:List Y6)(k:Nat):(j6 x k).length=k:=by simp[j6]
def vW(n:Nat)(z:Y3):cj:=⟨aO z.z0 n,aO z.z1 n,10+aO z.z2 150⟩
def ux(n:Nat)(l:List cj)(z:Y3):List cj:=if(vW n z).src≠(vW n z).dst∧follows l (vW n z)=true then l++[vW n z]else l
def gO(n:Nat)(zs:List Y3)(k:Nat):List cj:=(zs.take k).foldl (ux n) []
theorem rD(n:Nat)(zs:List Y3)(k:Nat)(h:k<zs.length):gO n zs (k+1)=ux n (gO n zs k) zs[k]:=by
 unfold gO;rw[List.take_add_one,List.getElem?_eq_getElem h,List.foldl_append];rfl
theorem uy(n:Nat)(zs:List Y3): ∀k,k≤zs.length→(gO n zs k).length≤k
 |0,_=>by simp[gO]
 |k+1,h=>by
  have ih:=uy n zs k (by omega)
  rw[rD n zs k (by omega)]
  unfold ux
  split
  ·rw[List.length_append];simp only[List.length_cons,List.length_nil];omega
  ·omega
def mk(x:List Y6)(zs:List Y3):bV:=⟨2,5,j6 x (eM x),gO (eM x) zs (min zs.length 4)⟩
theorem zh(y:Y6)(n i:Nat)(hi:i<n):cg (oM y n i) n=true:=by
 have p0:=dq (c:=y.y0) (n:=5) (by omega)
 have p1:=dq (c:=y.y1) (n:=30) (by omega)
 have p2:=dq (c:=y.y1.tdiv 30) (n:=20) (by omega)
 have p3:=dq (c:=y.y2) (n:=6) (by omega)
 have p4:=dq (c:=y.y2.tdiv 12) (n:=3) (by omega)
 have p5:=dq (c:=y.y3.tdiv 12) (n:=3) (by omega)
 have p6:=dq (c:=y.y4.tdiv 4) (n:=(i:Int)+1) (by omega)
 have p7:=dq (c:=y.y5) (n:=3) (by omega)
 have ht:ascending (fP y) 0 59=true∧within (fP y).length 1 8=true:=by
  unfold fP
  split
  ·simp[ascending,kU,within];omega
  ·simp[ascending,kU,within];omega
 have hx:ascending (gL y n i) 0 (n-1)=true∧(gL y n i).length≤4:=by
  unfold gL
  split
  ·rename_i h
   split
   ·rename_i h'
    simp[ascending,kU,within];omega
   ·simp[ascending,kU,within];omega
  ·simp[ascending]
 have hb:((if aO y.y4 4=0 then aO (y.y4.tdiv 4) (i+1)else -1)== -1&&(if aO y.y4 4=0 then 1+aO y.y5 3 else 0)==0||within (if aO y.y4 4=0 then aO (y.y4.tdiv 4) (i+1)else -1) 0 (n-1)&&within (if aO y.y4 4=0 then 1+aO y.y5 3 else 0) 1 9)=true:=by
  split
  ·simp[within];right;omega
  ·simp
 unfold cg oM
 simp only[ht.1,ht.2,hx.1,hb,Bool.true_and,Bool.and_true,Bool.and_eq_true,decide_eq_true_eq]
 have:=hx.2
 refine⟨⟨⟨⟨?_,?_⟩,?_⟩,?_⟩,?_⟩
 ·omega
 ·unfold within;simp;omega
 ·omega
 ·omega
 ·omega
theorem rE{n:Int}{w:cj}: ∀{l pre:List cj},ek n pre (l++[w])=(ek n pre l&&(dS w n&&follows (pre++l) w))
 |[],pre=>by simp[ek]
 |v::r,pre=>by
  rw[List.cons_append]
  unfold ek
  rw[rE,List.append_assoc]
  simp[Bool.and_assoc]
theorem ze(n:Nat)(hn:1≤n)(zs:List Y3): ∀k,k≤zs.length→ek n [] (gO n zs k)=true
 |0,_=>by simp[gO,ek]
 |k+1,h=>by
  have ih:=ze n hn zs k (by omega)
  rw[rD n zs k (by omega)]
  generalize zs[k]=z
  unfold ux
  split
  ·rename_i hc
   rw[rE,ih,List.nil_append,hc.2,Bool.and_true,Bool.true_and]
   have p0:=dq (c:=z.z0) (n:=n) (by omega)
   have p1:=dq (c:=z.z1) (n:=n) (by omega)
   have p2:=dq (c:=z.z2) (n:=150) (by omega)
   have h1:=hc.1
   unfold vW at h1
   unfold dS vW within
   simp only[Bool.and_eq_true,decide_eq_true_eq,bne_iff_ne,ne_eq]
   exact⟨⟨⟨⟨by omega,by omega⟩,by omega,by omega⟩,h1⟩,by omega,by omega⟩
  ·exact ih
theorem E7(x:List Y6)(zs:List Y3):valid (mk x zs)=true:=by
 have hn:=vx x
 have hl:=yi x (eM x)
 have hw:=uy (eM x) zs (min zs.length 4) (by omega)
 have hk:=ze (eM x) hn.1 zs (min zs.length 4) (by omega)
 unfold valid
 simp only[Bool.and_eq_true,decide_eq_true_eq,List.all_eq_true]
 refine⟨⟨⟨⟨by simp[eh,mk],?_⟩,?_⟩,?_⟩,?_⟩
 ·unfold within mk;simp only[hl];simp;omega
 ·show((gO (eM x) zs (min zs.length 4)).length:Int)≤20;omega
 ·intro s hs
  unfold mk at hs⊢
  simp only[hl]
  unfold j6 at hs
  obtain⟨i,hi,rfl⟩:=List.mem_map.1 hs
  exact zh _ _ i (List.mem_range.1 hi)
 ·unfold mk;simp only[hl];exact hk
end Go.Proofs.YtebobfdheanknaaGreatDoor

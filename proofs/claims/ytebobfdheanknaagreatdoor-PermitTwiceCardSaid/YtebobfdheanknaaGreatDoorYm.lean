/- Parts of the proof, from: The walks through the generator of package ref19: Reworks. -/
import Derived.Test.YtebobfdheanknaaGreatDoorYl
import Derived.Test.YtebobfdheanknaaGreatDoorYf
import Derived.Test.YtebobfdheanknaaGreatDoorYg
namespace Go.Proofs.YtebobfdheanknaaGreatDoor
open Go Go.K
set_option maxRecDepth 10000
attribute [local irreducible] W WL cT bu bX bA bB bD cW cG
set_option maxHeartbeats 1000000
theorem GG(v u:Value)(f:bV)(s:Step)(h:List bc)(n:Int)(g:G)(fk:fA g v f)(bN:Rs g u h)(dm:dA f.steps n=some s)(hl:h.length≤1000000):CallsIn Wd 0 Tryz.prog 85 #[v,u,.int .i64 n] g.w (cR g fun _ r=>r= .int .i64 (uQ (some f) h n)):=by
 have hs:=St.start g
 have aq:=G.le.refl g
 have SK:uQ (some f) h n=((if s.next.contains s.back then 0 else((List.range (h.length-1)).filter (FN h n s.back)).length:Nat):Int):=by
  unfold uQ
  rw[show gR (some f) n=some s from dm]
  show(if s.next.contains s.back=true then(0:Int)else _)=_
  cases s.next.contains s.back<;>rfl
 rw[SK];clear SK
 obtain⟨a3,c3,rfl⟩:=bN.isSlice
 obtain⟨a1,n1,c1,a2,n2,c2,rfl,aT,bT⟩:=fk
 clear bT
 obtain⟨_,_,e⟩:=aT.isSlice;obtain⟨rfl,rfl,rfl⟩:=Value.slice.inj e;clear e
 refine enter Tryz.func85 rfl Tryz.ntmps85 rfl ?_
 apply c_
 refine an rfl rfl (aR rfl hs rfl rfl ?_);clear hs;rintro b2 g1 hs ah;obtain⟨aq,aT,bN⟩:=ef ah aq aT bN
 obtain⟨g2,bR,aU,ah,aL⟩:=hs.a_ (i:=0) rfl;replace hs:=aU;clear aU;rw[←bR];obtain⟨aq,aT,bN⟩:=ef ah aq aT bN
 have aC:=aL;clear aL
 refine ba rfl ?_;refine aX rfl ?_;apply aB;refine aX rfl ?_;apply aG
 refine bS (fun m a' w=> ∃(k q:Nat) (g':G),w=g'.w∧St g g' []∧G.le g g'∧Rs g' (.slice a1 f.steps.length c1) f.steps∧Rs g' (.slice a3 h.length c3) h∧EP g' b2 0 [.int .i64 f.ck,.int .i64 f.cu,.slice a1 f.steps.length c1,.slice a2 n2 c2]∧(k+1≤h.length∨k=0)∧(if s.next.contains s.back then 0 else((List.range k).filter (FN h n s.back)).length)=q∧m=h.length-k∧
   Fr 50 [] [(1,.slice a3 h.length c3),(2,.int .i64 n),(3,.pointer (some ⟨b2,0,none⟩)),(7,.int .i64 (q:Nat)),(8,.int .i64 (k+1:Nat))] a') h.length
  (fun a' ha=>⟨0,0,_,rfl,hs,aq,aT,bN,aC,.inr rfl,by simp,rfl,ha.keep (by(repeat (first|exact trivial|refine⟨rfl,?_⟩)))⟩) ?_
 (repeat clear hs);(repeat clear bN);(repeat clear aq);(repeat clear aC);(repeat clear aT)
 rintro m a' _ ⟨k,q,g',rfl,hs,aq,aT,bN,aC,hk,hq,rfl,eI⟩
 have Ue:q≤k:=by
  rw[←hq]
  split
  ·exact Nat.zero_le _
  ·exact Nat.le_trans (List.length_filter_le ..) (by rw[List.length_range];omega)
 revert a'
 apply cQ;apply aB;refine aX rfl ?_
 by_cases bh:k+1<h.length
 ·refine aJ (b:=decide (((k+1:Nat):Int)<(h.length:Int))) (by simp;omega) rfl ?_
  obtain⟨b0,p0,ys,rfl,mg,hx⟩:=bN.at (i:=k) (List.getElem?_eq_getElem (by omega))
  obtain⟨Qy,Qz,Kw,e,vy,hy⟩:=bN.at (i:=k+1) (List.getElem?_eq_getElem bh)
  obtain⟨rfl,rfl⟩:b0=Qy∧p0=Qz:=by simpa using e
  clear e
  have jn:(if s.next.contains s.back then 0 else((List.range (k+1)).filter (FN h n s.back)).length)=q+(if h[k].step==n&&(h[k+1].step==s.back&& !s.next.contains s.back)then 1 else 0):=by
   rw[←hq]
   cases s.next.contains s.back with
   |true=>simp
   |false=>
    rw[if_neg (by simp),if_neg (by simp),List.range_succ,List.filter_append,List.length_append,Bool.not_false,Bool.and_true]
    congr 1
    have e:FN h n s.back k=(h[k].step==n&&h[k+1].step==s.back):=by
     unfold FN
     rw[List.getD_eq_getElem?_getD,List.getD_eq_getElem?_getD,List.getElem?_eq_getElem (by omega),List.getElem?_eq_getElem bh];rfl
    rw[List.filter_cons,e]
    split<;>rfl
  generalize h[k]=x at hx jn
  generalize h[k+1]=y at hy jn
  obtain rfl:ys=bW x:=hx
  obtain rfl:Kw=bW y:=hy
  clear hq
  apply aE;apply au;apply aB;apply aG;refine dx 3 [.z aC] (St.start _) rfl ?_
  refine an rfl rfl (aW T.ok rfl aT (y:=s) dm rfl rfl rfl rfl rfl rfl ?_)
  rintro b6 q6 ys aL eK
  obtain⟨a7,n7,c7,a8,n8,c8,rfl,eg,fq⟩:=eK
  clear eg
  have dO:=aL;clear aL
  refine Wm 1 [.e dO 0] (St.start _) rfl ?_
  refine an rfl rfl (aK T.ok rfl hs rfl rfl ?_);clear hs;rintro b9 g1 hs ah;obtain⟨aq,aC,mg,vy,aT,bN⟩:=iu ah aq aC mg vy aT bN;replace fq:=fq.mono ah
  refine bg rfl (aA T.ok 0 rfl hs rfl rfl rfl rfl rfl rfl rfl rfl rfl ?_);replace hs:=hs;rintro g1 hs ah;obtain⟨aq,aC,mg,vy,aT,bN⟩:=iu ah aq aC mg vy aT bN;replace fq:=fq.mono ah
  obtain⟨g2,bR,aU,ah,aL⟩:=hs.a_ (i:=0) rfl;replace hs:=aU;clear aU;rw[←bR];obtain⟨aq,aC,mg,vy,aT,bN⟩:=iu ah aq aC mg vy aT bN;replace fq:=fq.mono ah
  have aP:=aL;clear aL
  apply cf;apply aB
  cases h1:x.step==n with
  |false=>
   rw[h1]at jn
   apply bO hs (eJ (.e (.int .i64 (k:Nat))::gE (.e (.bool false)::fj (fj (eJ []))))) 26 [(25,46)] (by kernel_rfl) rfl
   ·refine Dm [[],[]] [] hs (by kernel_rfl) rfl ?_
    refine aw (ak (js:=[(1,22)]) (by kernel_rfl) fun gd hf=>ai rfl (aj (az rfl (aM _ T.ok rfl ⟨gd,rfl,aZ.refl _,congrArg (Value.int .i64) (by rw[wr (by omega) (by omega)];omega)⟩)))) ?_
    refine aw (ak (js:=[(0,21),(2,23)]) (by kernel_rfl) fun gd hf=>ai rfl (ai rfl (aj (az rfl (fT T.ok rfl rfl rfl (by omega) (by omega) rfl rfl rfl ⟨gd,rfl,aZ.refl _,rfl⟩))))) ?_
    refine Dm [[3],[4],[]] [.e mg 13] hs (by kernel_rfl) rfl ?_
    refine aw (ak (js:=[(5,26),(6,27)]) (by kernel_rfl) fun gd hf=>ai rfl (ai rfl (aj (az rfl (aM _ T.ok rfl ⟨gd,rfl,aZ.refl _,congrArg Value.bool h1⟩))))) ?_
    exact Dz [[7],[8],[8],[9,10,8],[11,8],[12,8],[8],[14,8],[13,15,8],[8,16],[17],[18],[19,18],[18],[21,18],[20,22,18,18],[23,18],[18,24]] [] hs (by kernel_rfl) rfl
   (repeat clear hs);intro g6 hs ah;obtain⟨aq,aC,aP,mg,vy,aT⟩:=iu ah aq aC aP mg vy aT;obtain⟨bN,fq⟩:=cC ah bN fq
   apply cf
   refine aS rfl rfl ?_
   apply aE;apply bU;apply au;apply ar;refine Wp 3 rfl ?_;apply aD
   exact fun a ha=>⟨h.length-(k+1),by omega,k+1,q,_,rfl,hs,aq,aT,bN,aC,.inl (by omega),jn,rfl,ha.keep ⟨rfl,rfl,rfl,rfl,kI rfl (by rw[wr (by omega) (by omega)];omega),trivial⟩⟩
  |true=>
   rw[h1]at jn
   cases h2:y.step==s.back with
   |false=>
    rw[h2]at jn
    apply bO hs (eJ (.e (.int .i64 (k:Nat))::gE (.e (.bool true)::fj (.e (.bool false)::fj (fe []))))) 26 [(25,46)] (by kernel_rfl) rfl
    ·refine Dm [[],[]] [] hs (by kernel_rfl) rfl ?_
     refine aw (ak (js:=[(1,22)]) (by kernel_rfl) fun gd hf=>ai rfl (aj (az rfl (aM _ T.ok rfl ⟨gd,rfl,aZ.refl _,congrArg (Value.int .i64) (by rw[wr (by omega) (by omega)];omega)⟩)))) ?_
     refine aw (ak (js:=[(0,21),(2,23)]) (by kernel_rfl) fun gd hf=>ai rfl (ai rfl (aj (az rfl (fT T.ok rfl rfl rfl (by omega) (by omega) rfl rfl rfl ⟨gd,rfl,aZ.refl _,rfl⟩))))) ?_
     refine Dm [[3],[4],[]] [.e mg 13] hs (by kernel_rfl) rfl ?_
     refine aw (ak (js:=[(5,26),(6,27)]) (by kernel_rfl) fun gd hf=>ai rfl (ai rfl (aj (az rfl (aM _ T.ok rfl ⟨gd,rfl,aZ.refl _,congrArg Value.bool h1⟩))))) ?_
     refine Dm [[7],[8],[8]] [] hs (by kernel_rfl) rfl ?_
     refine aw (ak (js:=[(9,30),(10,31),(8,29)]) (by kernel_rfl) fun gd hf=>ai rfl (ai rfl (ai rfl (aj (az rfl (fT T.ok rfl rfl rfl (by omega) (by omega) rfl rfl rfl ⟨gd,rfl,aZ.refl _,rfl⟩)))))) ?_
     refine Dm [[11,8],[12,8],[8],[14,8]] [.e vy 13,.z aP] hs (by kernel_rfl) rfl ?_
     refine aw (ak (js:=[(13,34),(15,36),(8,29)]) (by kernel_rfl) fun gd hf=>ai rfl (ai rfl (ai rfl (aj (az rfl (aM _ T.ok rfl ⟨gd,rfl,aZ.refl _,congrArg Value.bool h2⟩)))))) ?_
     exact Dz [[8,16],[17],[18],[19,18],[18],[21,18],[20,22,18,18],[23,18],[18,24]] [] hs (by kernel_rfl) rfl
    (repeat clear hs);intro g6 hs ah;obtain⟨aq,aC,aP,mg,vy,aT⟩:=iu ah aq aC aP mg vy aT;obtain⟨bN,fq⟩:=cC ah bN fq
    apply cf
    refine aS rfl rfl ?_
    apply aE;apply bU;apply au;apply ar;refine Wp 3 rfl ?_;apply aD
    exact fun a ha=>⟨h.length-(k+1),by omega,k+1,q,_,rfl,hs,aq,aT,bN,aC,.inl (by omega),jn,rfl,ha.keep ⟨rfl,rfl,rfl,rfl,kI rfl (by rw[wr (by omega) (by omega)];omega),trivial⟩⟩
   |true=>
    rw[h2]at jn
    apply bO hs (eJ (.e (.int .i64 (k:Nat))::gE (.e (.bool true)::fj (.e (.bool true)::fj (fe []))))) 26 [(25,46)] (by kernel_rfl) rfl
    ·refine Dm [[],[]] [] hs (by kernel_rfl) rfl ?_
     refine aw (ak (js:=[(1,22)]) (by kernel_rfl) fun gd hf=>ai rfl (aj (az rfl (aM _ T.ok rfl ⟨gd,rfl,aZ.refl _,congrArg (Value.int .i64) (by rw[wr (by omega) (by omega)];omega)⟩)))) ?_
     refine aw (ak (js:=[(0,21),(2,23)]) (by kernel_rfl) fun gd hf=>ai rfl (ai rfl (aj (az rfl (fT T.ok rfl rfl rfl (by omega) (by omega) rfl rfl rfl ⟨gd,rfl,aZ.refl _,rfl⟩))))) ?_
     refine Dm [[3],[4],[]] [.e mg 13] hs (by kernel_rfl) rfl ?_
     refine aw (ak (js:=[(5,26),(6,27)]) (by kernel_rfl) fun gd hf=>ai rfl (ai rfl (aj (az rfl (aM _ T.ok rfl ⟨gd,rfl,aZ.refl _,congrArg Value.bool h1⟩))))) ?_
     refine Dm [[7],[8],[8]] [] hs (by kernel_rfl) rfl ?_
     refine aw (ak (js:=[(9,30),(10,31),(8,29)]) (by kernel_rfl) fun gd hf=>ai rfl (ai rfl (ai rfl (aj (az rfl (fT T.ok rfl rfl rfl (by omega) (by omega) rfl rfl rfl ⟨gd,rfl,aZ.refl _,rfl⟩)))))) ?_
     refine Dm [[11,8],[12,8],[8],[14,8]] [.e vy 13,.z aP] hs (by kernel_rfl) rfl ?_
     refine aw (ak (js:=[(13,34),(15,36),(8,29)]) (by kernel_rfl) fun gd hf=>ai rfl (ai rfl (ai rfl (aj (az rfl (aM _ T.ok rfl ⟨gd,rfl,aZ.refl _,congrArg Value.bool h2⟩)))))) ?_
     exact Dz [[8,16],[17],[18],[19,18],[18],[21,18],[20,22,18,18],[23,18],[18,24]] [.z aP,.z aP,.c Ln fun g' h=>Jl _ s.next s.back g' (fq.mono h)] hs (by kernel_rfl) rfl
    (repeat clear hs);intro g6 hs ah;obtain⟨aq,aC,aT,bN⟩:=dE ah aq aC aT bN
    apply cf
    revert jn
    generalize s.next.contains s.back=cn
    intro jn
    cases cn with
    |true=>
     refine aS rfl rfl ?_
     apply aE;apply bU;apply au;apply ar;refine Wp 3 rfl ?_;apply aD
     exact fun a ha=>⟨h.length-(k+1),by omega,k+1,q,_,rfl,hs,aq,aT,bN,aC,.inl (by omega),jn,rfl,ha.keep ⟨rfl,rfl,rfl,rfl,kI rfl (by rw[wr (by omega) (by omega)];omega),trivial⟩⟩
    |false=>
     refine aJ rfl rfl ?_
     apply ar;refine Wp 3 rfl ?_;apply aD;apply bU;apply au;apply ar;refine Wp 3 rfl ?_;apply aD
     exact fun a ha=>⟨h.length-(k+1),by omega,k+1,q+1,_,rfl,hs,aq,aT,bN,aC,.inl (by omega),jn,rfl,ha.keep ⟨rfl,rfl,rfl,kI rfl (by rw[wr (by omega) (by omega)];omega),kI rfl (by rw[wr (by omega) (by omega)];omega),trivial⟩⟩
 ·refine aS (b:=decide (((k+1:Nat):Int)<(h.length:Int))) (by simp;omega) rfl ?_
  apply bE;apply bK;apply bK;apply dc;apply au;refine aX rfl ?_
  refine aF (aV rfl rfl (hs.ret ?_))
  rw[←hq,show k=h.length-1 from by omega]
end Go.Proofs.YtebobfdheanknaaGreatDoor
namespace Go.Proofs.YtebobfdheanknaaGreatDoor
open Go Go.K
set_option maxRecDepth 10000
attribute [local irreducible] W WL cT bu bX bA bB bD cW cG
set_option maxHeartbeats 1000000
def j3(f:bV)(h:List bc):List Int:=
 match h.getLast? with
 |none=>[0]
 |some x=>match dA f.steps x.step with
  |none=>[]
  |some s=>if decide (0≤s.back)&&decide (uQ (some f) h x.step<s.dF)then yg s.next s.back else s.next
theorem z'{f:bV}{hi:List bc}{x:bc}(e:dA f.steps x.step=none):j3 f (hi++[x])=[]:=by
 unfold j3;rw[List.getLast?_concat];simp only[e]
theorem wS{f:bV}{hi:List bc}{x:bc}{s:Step}(e:dA f.steps x.step=some s):j3 f (hi++[x])=if decide (0≤s.back)&&decide (uQ (some f) (hi++[x]) x.step<s.dF)then yg s.next s.back else s.next:=by
 unfold j3;rw[List.getLast?_concat];simp only[e]
def SL(f:bV):Prop:=∀s∈f.steps,s.next.length≤100000
theorem Cg(v u:Value)(f:bV)(h:List bc)(g:G)(dI:fA g v f)(bN:Rs g u h)(hl:h.length≤1000000)(hn:SL f):CallsIn Wd 0 Tryz.prog 38 #[v,u] g.w (cR g fun g' r=>Rs g' r (j3 f h)):=by
 have hs:=St.start g
 have aq:=G.le.refl g
 obtain⟨a3,c3,rfl⟩:=bN.isSlice
 have QI:=dI
 obtain⟨a1,n1,c1,a2,n2,c2,rfl,aT,bT⟩:=QI
 clear bT
 obtain⟨_,_,e⟩:=aT.isSlice;obtain⟨rfl,rfl,rfl⟩:=Value.slice.inj e;clear e
 refine enter Tryz.func38 rfl Tryz.ntmps38 rfl ?_
 apply c_
 refine an rfl rfl (aR rfl hs rfl rfl ?_);clear hs;rintro b2 g1 hs ah;obtain⟨aT,bN,dI⟩:=ef ah aT bN dI
 obtain⟨g2,bR,aU,ah,aL⟩:=hs.a_ (i:=0) rfl;replace hs:=aU;clear aU;rw[←bR];obtain⟨aT,bN,dI⟩:=ef ah aT bN dI
 have aC:=aL;clear aL
 refine ba rfl ?_;apply aB;refine aX rfl ?_
 rcases List.eq_nil_or_concat h with rfl|⟨hi,x,rfl⟩
 ·refine aJ (b:=(([]:List bc).length:Int)==0) rfl rfl ?_
  apply c_
  refine an rfl rfl (bj T.ok rfl hs (vs:=[(0,.int .i64 ((0:Int)))]) (cells:=[.int .i64 ((0:Int))]) rfl rfl rfl rfl rfl rfl (by decide) (by decide) (by kernel_rfl) rfl ?_);rintro bl gl hs ah;obtain⟨aC,aT,bN,dI⟩:=dE ah aC aT bN dI;obtain⟨gz,ik,cS,iT,eg⟩:=hs.cL (α:=Int) (xs:=[(0:Int)]) (i:=0) rfl (cO.ints _ [(0:Int)]);clear ah;have ah:=iT;rw[←ik];replace hs:=cS;clear cS;obtain⟨aC,aT,bN,dI⟩:=dE ah aC aT bN dI
  refine ba rfl ?_
  exact aF (aV rfl rfl (hs.ret eg))
 ·rw[List.concat_eq_append]at*
  refine aS (b:=((hi++[x]).length:Int)==0) (by simp;omega) rfl ?_
  have x_:(hi++[x]).length=hi.length+1:=by simp
  have ic:dA (hi++[x]) (IntKind.i64.wrap (((hi++[x]).length:Nat)-1))=some x:=by
   rw[wr (by omega) (by omega),x_,show((hi.length+1:Nat):Int)-1=(hi.length:Nat)from by omega]
   unfold dA;rw[if_neg (by omega)];simp
  apply aE;apply au;refine cP 4 rfl ?_
  refine an rfl rfl (aW T.ok rfl bN (y:=x) ic rfl rfl rfl rfl rfl rfl ?_)
  rintro b9 q9 ys aL rfl
  refine Wp 1 rfl ?_
  refine Wm 1 [.e aL 13] (St.start _) rfl ?_
  clear aL
  refine ba rfl ?_;apply aB;refine cP 3 rfl ?_
  cases h1:decide (x.step<0)with
  |true=>
   have e:dA f.steps x.step=none:=if_pos (of_decide_eq_true h1)
   refine ba rfl ?_
   refine aJ rfl rfl ?_
   refine aX rfl ?_
   exact aF (aV rfl rfl (hs.ret (by rw[z' e];exact Rs.nil _)))
  |false=>
   have h1:=of_decide_eq_false h1
   refine A3 [.z aC] (St.start _) rfl ?_
   by_cases h2:(f.steps.length:Int)≤x.step
   ·have e:dA f.steps x.step=none:=(if_neg h1).trans (List.getElem?_eq_none (by omega))
    refine aJ (b:=decide ((f.steps.length:Int)≤x.step)) (decide_eq_true h2) rfl ?_
    refine aX rfl ?_
    exact aF (aV rfl rfl (hs.ret (by rw[z' e];exact Rs.nil _)))
   ·have bh:x.step.toNat<f.steps.length:=by omega
    have dm:dA f.steps x.step=some f.steps[x.step.toNat]:=(if_neg h1).trans (List.getElem?_eq_getElem bh)
    refine aS (b:=decide ((f.steps.length:Int)≤x.step)) (decide_eq_false h2) rfl ?_
    have FJ:f.steps[x.step.toNat].next.length≤100000:=hn _ (List.getElem_mem bh)
    generalize f.steps[x.step.toNat]=s at*
    apply aE;apply au;refine dx 3 [.z aC] (St.start _) rfl ?_
    refine an rfl rfl (aW T.ok rfl aT (y:=s) dm rfl rfl rfl rfl rfl rfl ?_)
    rintro b6 q6 ys aL eK
    obtain⟨a7,n7,c7,a8,n8,c8,rfl,eg,fq⟩:=eK
    clear eg
    have dO:=aL;clear aL
    refine Wm 1 [.e dO 0] (St.start _) rfl ?_
    refine an rfl rfl (aK T.ok rfl hs rfl rfl ?_);clear hs;rintro b7 g1 hs ah;obtain⟨aC,bN,fq,dI⟩:=dE ah aC bN fq dI
    refine bg rfl (aA T.ok 0 rfl hs rfl rfl rfl rfl rfl rfl rfl rfl rfl ?_);replace hs:=hs;rintro g1 hs ah;obtain⟨aC,bN,fq,dI⟩:=dE ah aC bN fq dI
    obtain⟨g2,bR,aU,ah,aL⟩:=hs.a_ (i:=0) rfl;replace hs:=aU;clear aU;rw[←bR];obtain⟨aC,bN,fq,dI⟩:=dE ah aC bN fq dI
    have aP:=aL;clear aL
    apply cf;apply c_
    refine an rfl rfl (bj T.ok rfl hs (vs:=[]) (cells:=[]) rfl rfl rfl rfl rfl rfl (by decide) (by decide) (by kernel_rfl) rfl ?_);rintro b8 g9 hs ah;obtain⟨aC,aP,bN,fq,dI⟩:=kN ah aC aP bN fq dI
    refine Wm 2 [.z aP] (St.start _) rfl ?_
    obtain⟨Wr,news,eK,gn⟩:=Src.jq fq
    refine an rfl rfl (b_ T.ok 0 rfl hs rfl rfl rfl rfl rfl rfl rfl (by decide) rfl gn eK.nP (by show(0+n8)*8≤_;omega) (by unfold maxLen;omega) ?_);rintro a6 c6 g10 hs ah;obtain⟨aC,aP,bN,dI⟩:=dE ah aC aP bN dI
    obtain⟨g13,pI,pJ,ah,dj⟩:=hs.cL (α:=Int) (i:=0) rfl (xs:=s.next) (by simpa using eK.mono ah)
    rw[←pI];(repeat clear hs);have hs:=pJ;clear pJ;replace dj:Rs g13 _ s.next:=dj;obtain⟨aC,aP,bN,dI⟩:=dE ah aC aP bN dI;clear pI
    refine ba rfl ?_;apply aB;apply aB
    cases h3:decide (0≤s.back)with
    |false=>
     apply bO hs (eJ (.e (.bool false)::fj (fe []))) 12 [(11,48)] (by kernel_rfl) rfl
     ·refine Dm [[],[0]] [.z aP] hs (by kernel_rfl) rfl ?_
      refine aw (ak (js:=[(1,38)]) (by kernel_rfl) fun gd hf=>ai rfl (aj (az rfl (aM _ T.ok rfl ⟨gd,rfl,aZ.refl _,congrArg Value.bool h3⟩)))) ?_
      exact Dz [[2],[3],[3],[3],[4,5,6,3,3],[3],[8,3],[7,9,3],[3,10]] [] hs (by kernel_rfl) rfl
     (repeat clear hs);intro g6 hs ah;obtain⟨aC,aP,bN,dj,dI⟩:=kN ah aC aP bN dj dI
     apply cf
     refine aS rfl rfl ?_
     apply aE;apply au;refine aX rfl ?_
     exact aF (aV rfl rfl (hs.ret (by rw[wS dm,h3];exact dj)))
    |true=>
     apply bO hs (eJ (.e (.bool true)::fj (fe []))) 12 [(11,48)] (by kernel_rfl) rfl
     ·refine Dm [[],[0]] [.z aP] hs (by kernel_rfl) rfl ?_
      refine aw (ak (js:=[(1,38)]) (by kernel_rfl) fun gd hf=>ai rfl (aj (az rfl (aM _ T.ok rfl ⟨gd,rfl,aZ.refl _,congrArg Value.bool h3⟩)))) ?_
      exact Dz [[2],[3],[3],[3],[4,5,6,3,3],[3],[8,3],[7,9,3],[3,10]] [.z aC,.c PZ fun g' h=>GG _ _ f s (hi++[x]) x.step g' (dI.mono h) (bN.mono h) dm hl,.z aP] hs (by kernel_rfl) rfl
     (repeat clear hs);intro g6 hs ah;obtain⟨aP,dj⟩:=cC ah aP dj
     apply cf
     cases h4:decide (uQ (some f) (hi++[x]) x.step<s.dF)with
     |false=>
      refine aS rfl rfl ?_
      apply aE;apply au;refine aX rfl ?_
      exact aF (aV rfl rfl (hs.ret (by rw[wS dm,h3,h4];exact dj)))
     |true=>
      refine aJ rfl rfl ?_
      apply ar;refine Wm 3 [.z aP] (St.start _) rfl ?_
      refine an rfl rfl (ay PK aI rfl rfl rfl rfl rfl (NG _ s.next s.back _ dj (by omega)) ?_);rintro g1 _ aN pk;replace hs:=hs.call aN;have ah:=aN.le
      refine ba rfl ?_;refine aX rfl ?_
      exact aF (aV rfl rfl (hs.ret (by rw[wS dm,h3,h4];exact pk)))
end Go.Proofs.YtebobfdheanknaaGreatDoor
namespace Go.Proofs.YtebobfdheanknaaGreatDoor
open Go Go.K
set_option maxRecDepth 10000
attribute [local irreducible] W WL cT bu bX bA bB bD cW cG
set_option maxHeartbeats 1000000
def yn(s:Step)(tool idn waf step time:Int):bc:=⟨1,idn,1,0,false,time,IntKind.i64.wrap (time+s.min),waf,0,0,0,tool,0,step,s.dD,1,0,0,[]⟩
theorem Jq(v:Value)(f:bV)(s:Step)(tool idn waf step time:Int)(g:G)(fk:fA g v f)(dm:dA f.steps step=some s)(ht:s.dB[0]? =some tool):CallsIn Wd 0 Tryz.prog 34 #[v,.int .i64 idn,.int .i64 waf,.int .i64 step,.int .i64 time] g.w (cR g fun _ r=>r=fv (yn s tool idn waf step time)):=by
 have hs:=St.start g
 have aq:=G.le.refl g
 obtain⟨a1,n1,c1,a2,n2,c2,rfl,aT,bT⟩:=fk
 clear bT
 obtain⟨_,_,e⟩:=aT.isSlice;obtain⟨rfl,rfl,rfl⟩:=Value.slice.inj e;clear e
 refine enter Tryz.func34 rfl Tryz.ntmps34 rfl ?_
 apply c_
 refine an rfl rfl (aR rfl hs rfl rfl ?_);clear hs;rintro b5 g1 hs ah;replace aT:=aT.mono ah
 obtain⟨g2,bR,aU,ah,aL⟩:=hs.a_ (i:=0) rfl;replace hs:=aU;clear aU;rw[←bR];replace aT:=aT.mono ah
 have aC:=aL;clear aL
 skip
 refine an rfl rfl (aK T.ok rfl hs rfl rfl ?_);clear hs;rintro IL g1 hs ah;obtain⟨aC,aT⟩:=cC ah aC aT
 apply cf;refine dx 3 [.z aC] (St.start _) rfl ?_
 refine an rfl rfl (aW T.ok rfl aT (y:=s) dm rfl rfl rfl rfl rfl rfl ?_)
 rintro b6 q6 ys aL eK
 obtain⟨a7,n7,c7,a8,n8,c8,rfl,eg,fq⟩:=eK
 clear fq
 have dO:=aL;clear aL
 refine Wm 1 [.e dO 0] (St.start _) rfl ?_
 refine an rfl rfl (aK T.ok rfl hs rfl rfl ?_);clear hs;rintro we g1 hs ah;replace eg:=eg.mono ah
 refine bg rfl (aA T.ok 0 rfl hs rfl rfl rfl rfl rfl rfl rfl rfl rfl ?_);replace hs:=hs;rintro g1 hs ah;replace eg:=eg.mono ah
 obtain⟨g2,bR,aU,ah,aL⟩:=hs.a_ (i:=0) rfl;replace hs:=aU;clear aU;rw[←bR];replace eg:=eg.mono ah
 have aP:=aL;clear aL
 apply cf;apply aB
 obtain⟨rfl,_,_⟩:=eg.oL
 obtain⟨b0,p0,ys,rfl,mg,hx⟩:=eg.at (i:=0) ht
 obtain rfl:ys=[.int .i64 tool]:=hx
 have bh:0<s.dB.length:=(List.getElem?_eq_some_iff.1 ht).1
 apply bO hs (fj (gE (eJ (.e (fv (yn s tool idn waf step time))::[])))) 15 [(14,31)] (by kernel_rfl) rfl
 ·refine Dm [[],[],[],[2]] [.z aP] hs (by kernel_rfl) rfl ?_
  refine aw (ak (js:=[(3,20)]) (by kernel_rfl) fun gd hf=>ai rfl (aj (az rfl (fT T.ok rfl rfl rfl (by omega) bh rfl rfl rfl ⟨gd,rfl,aZ.refl _,rfl⟩)))) ?_
  refine Dm [[4],[],[],[7],[],[],[],[11],[10,12]] [.e mg 0,.z aP,.z aP] hs (by kernel_rfl) rfl ?_
  refine aw (ak (js:=[(0,17),(1,18),(5,22),(6,23),(8,25),(9,26),(13,30)]) (by kernel_rfl) fun gd hf=>ai rfl (ai rfl (ai rfl (ai rfl (ai rfl (ai rfl (ai rfl (aj (az rfl (aQ T.ok rfl (vs:=[(0,.int .i64 1),(2,.int .i64 1),(1,.int .i64 idn),(7,.int .i64 waf),(11,.int .i64 tool),(13,.int .i64 step),(14,.int .i64 s.dD),(15,.int .i64 1),(5,.int .i64 time),(6,.int .i64 (IntKind.i64.wrap (time+s.min)))]) (cells:=bW (yn s tool idn waf step time)) rfl rfl rfl rfl [(0,1),(1,1),(2,1),(3,1),(4,1),(5,1),(6,1),(7,1),(8,1),(9,1),(10,1),(11,1),(12,1),(13,1),(14,1),(15,1),(16,1),(17,1),(18,1)] rfl (by kernel_rfl) ⟨gd,rfl,aZ.refl _,rfl⟩)))))))))) ?_
  exact fJ
 (repeat clear hs);intro g6 hs ah
 skip
 refine bg rfl (aA T.ok 0 rfl hs rfl rfl rfl rfl rfl rfl rfl rfl rfl ?_);replace hs:=hs;rintro g1 hs ah
 apply cf
 exact aF (kJ T.ok 0 rfl hs rfl rfl rfl (hs.ret rfl))
end Go.Proofs.YtebobfdheanknaaGreatDoor
namespace Go.Proofs.YtebobfdheanknaaGreatDoor
open Go
theorem xu: ∀(k n:Nat),n<10^(k+1)→(dec n).length≤k+1
 |0,n,h=>by rw[gX (by omega)];simp
 |k+1,n,h=>by
  by_cases h1:n<10
  ·rw[gX h1];simp
  ·rw[mw h1,List.length_append]
   have:=xu k (n/10) (by rw[Nat.pow_succ]at h;omega)
   simp only[List.length_cons,List.length_nil];omega
theorem dw{n:Int}(h:mI n):(cX n).length≤7:=xu 6 n.toNat (by have:=h.1;have:=h.2;simp;omega)
theorem ur{a b:Int}(h1:mI a)(h2:mI b):(nE a b).length≤16:=by
 have:=dw h1;have:=dw h2
 unfold nE;simp only[List.length_append,List.length_cons];omega
theorem oZ{c:UInt8}{k:Nat}: ∀{l:List (List UInt8)},(∀x∈l,x.length≤k)→(gw c l).length≤l.length*(k+1)
 |[],_=>Nat.zero_le _
 |[x],h=>by have:=h x (by simp);simp only[gw,List.length_cons,List.length_nil];omega
 |x::y::r,h=>by
  have h1:=h x (by simp)
  have h2:=oZ (c:=c) (l:=y::r) fun z hz=>h z (List.mem_cons_of_mem _ hz)
  rw[show gw c (x::y::r)=x++c::gw c (y::r)from rfl,List.length_append,List.length_cons]
  simp only[List.length_cons,Nat.add_mul,Nat.one_mul]at h2⊢
  omega
theorem nW{l:List Int}(h: ∀n∈l,mI n):(jv l).length≤l.length*8+1:=by
 unfold jv
 split
 ·simp
 ·have:=oZ (c:=44) (l:=l.map cX) (k:=7) fun x hx=>by obtain⟨n,hn,rfl⟩:=List.mem_map.1 hx;exact dw (h n hn)
  rw[List.length_map]at this;omega
def dW:List UInt8:=[115,116,101,112,32]
def cF:List UInt8:=[32,114,101,99,105,112,101,32]
def du:List UInt8:=[32,116,111,111,108,115,32]
def eC:List UInt8:=[32,116,105,109,101,32]
def e_:List UInt8:=[32,110,101,120,116,32]
def fb:List UInt8:=[32,98,97,99,107,32]
def AF:List UInt8:=[32,108,105,109,105,116,32]
def db:List UInt8:=[119,105,110,100,111,119,32]
def eR:List UInt8:=[109,111,118,101,32]
def uu(i:Nat)(s:Step):List UInt8:=dW++dec i++cF++cX s.dD++du++jv s.dB++eC++nE s.min s.max++e_++jv s.next
def yU(s:Step):List UInt8:=if 0≤s.back then fb++cX s.back++AF++cX s.dF else []
theorem nF(i:Nat)(s:Step):jh i s=uu i s++yU s:=by
 unfold jh ID uu yU
 by_cases h:0≤s.back
 ·rw[if_pos h,if_pos h]
  simp[gw,nB,lf,nC,rA,rB,qg,mx,dW,cF,du,eC,e_,fb,AF]
 ·rw[if_neg h,if_neg h]
  simp[gw,nB,lf,nC,rA,rB,dW,cF,du,eC,e_]
theorem ov(w:cj):gi w=db++cX w.src++[32]++cX w.dst++[32]++cX w.dF:=by
 unfold gi BD
 simp[gw,gY,db]
theorem rC(a b:Int):kH a b=eR++nE a b:=by
 unfold kH IE
 simp[gw,nD,eR]
def gj:Nat→List Step→List UInt8
 |_,[]=>[]
 |k,s::r=>jh k s++10::gj (k+1) r
def jY:List cj→List UInt8
 |[]=>[]
 |w::r=>gi w++10::jY r
def tD(f:bV):List UInt8:=kH f.ck f.cu++10::(gj 0 f.steps++jY f.windows)
theorem Fc{lo hi:Int}: ∀{l:List Int} {p:Int},kU lo hi p l=true→ ∀n∈l,lo≤n∧n≤hi
 |[],_,_,_,hn=>by cases hn
 |m::r,p,h,n,hn=>by
  unfold kU within at h
  simp only[Bool.and_eq_true,decide_eq_true_eq]at h
  rcases List.mem_cons.1 hn with rfl|hn
  ·exact h.1.1
  ·exact Fc h.2 n hn
theorem qh{lo hi:Int}{l:List Int}(h:ascending l lo hi=true): ∀n∈l,lo≤n∧n≤hi:=by
 cases l with
 |nil=>intro n hn;cases hn
 |cons m r=>
  unfold ascending within at h
  simp only[Bool.and_eq_true,decide_eq_true_eq]at h
  intro n hn
  rcases List.mem_cons.1 hn with rfl|hn
  ·exact h.1
  ·exact Fc h.2 n hn
structure vT(s:Step):Prop where
 n:OB s
 dB:s.dB.length≤8
 next:s.next.length≤4
theorem yV{s:Step}{n:Int}(hn:n≤1000000)(h:cg s n=true):vT s:=by
 unfold cg within at h
 simp only[Bool.and_eq_true,Bool.or_eq_true,decide_eq_true_eq,beq_iff_eq]at h
 obtain⟨⟨⟨⟨⟨⟨⟨h1,h2,h3⟩,h4⟩,h5⟩,h6⟩,h7⟩,h8⟩,h9⟩:=h
 have ht:=qh h5
 have hx:=qh h6
 refine⟨⟨⟨by omega,by omega⟩,fun e=>?_,fun n hn=>?_,⟨by omega,by omega⟩,⟨by omega,by omega⟩,fun n hn=>?_,?_⟩,by omega,by omega⟩
 ·rw[e]at h2;simp at h2
 ·have:=ht n hn;exact⟨by omega,by omega⟩
 ·have:=hx n hn;exact⟨by omega,by omega⟩
 ·rcases h1 with h|⟨h,h'⟩
  ·exact .inl h
  ·exact .inr ⟨⟨by omega,by omega⟩,⟨by omega,by omega⟩⟩
theorem u7{w:cj}{n:Int}(hn:n≤1000000)(h:dS w n=true):mI w.src∧mI w.dst∧mI w.dF:=by
 unfold dS within at h
 simp only[Bool.and_eq_true,decide_eq_true_eq]at h
 obtain⟨⟨⟨h1,h2⟩,_⟩,h3⟩:=h
 exact⟨⟨by omega,by omega⟩,⟨by omega,by omega⟩,⟨by omega,by omega⟩⟩
theorem qi{f:bV}(h:eh f=true):mI f.ck∧mI f.cu:=by
 unfold eh at h
 simp only[Bool.and_eq_true,decide_eq_true_eq]at h
 exact⟨⟨by omega,by omega⟩,⟨by omega,by omega⟩⟩
theorem uv{n:Int}: ∀{l pre:List cj},ek n pre l=true→ ∀w∈l,dS w n=true
 |[],_,_,_,hw=>by cases hw
 |v::r,pre,h,w,hw=>by
  unfold ek at h
  simp only[Bool.and_eq_true]at h
  rcases List.mem_cons.1 hw with rfl|hw
  ·exact h.1.1
  ·exact uv h.2 w hw
structure OC(f:bV):Prop where
 min:mI f.ck
 max:mI f.cu
 n1:1≤f.steps.length
 n40:f.steps.length≤40
 steps: ∀s∈f.steps,vT s
 Vz:f.windows.length≤20
 J9: ∀w∈f.windows,mI w.src∧mI w.dst∧mI w.dF
theorem Hi{f:bV}(h:valid f=true):OC f:=by
 unfold valid within at h
 simp only[Bool.and_eq_true,decide_eq_true_eq,List.all_eq_true]at h
 obtain⟨⟨⟨⟨h1,h2,h3⟩,h4⟩,h5⟩,h6⟩:=h
 exact⟨(qi h1).1,(qi h1).2,by omega,by omega,fun s hs=>yV (by omega) (h5 s hs),by omega,fun w hw=>u7 (by omega) (uv h6 w hw)⟩
theorem rf{i:Nat}{s:Step}(hi:i≤1000000)(h:vT s):(uu i s).length≤160:=by
 have h1:=xu 6 i (by simp;omega)
 have h2:=dw h.n.dD
 have h3:=nW h.n.Av
 have h4:=nW h.n.next
 have h5:=ur h.n.min h.n.max
 have:=h.dB;have:=h.next
 unfold uu dW cF du eC e_
 simp only[List.length_append,List.length_cons,List.length_nil]
 omega
theorem vU{s:Step}(h:vT s):(yU s).length≤27:=by
 unfold yU
 split
 ·rename_i hb
  rcases h.n.back with⟨e,_⟩|⟨h1,h2⟩
  ·omega
  ·have:=dw h1;have:=dw h2
   unfold fb AF
   simp only[List.length_append,List.length_cons,List.length_nil];omega
 ·simp
theorem nG{w:cj}(h:mI w.src∧mI w.dst∧mI w.dF):(gi w).length≤30:=by
 have:=dw h.1;have:=dw h.2.1;have:=dw h.2.2
 rw[ov]
 unfold db
 simp only[List.length_append,List.length_cons,List.length_nil];omega
theorem xv{a b:Int}(h1:mI a)(h2:mI b):(kH a b).length≤21:=by
 have:=ur h1 h2
 rw[rC]
 unfold eR
 simp only[List.length_append,List.length_cons,List.length_nil];omega
theorem uw: ∀{l:List Step} {k:Nat},k+l.length≤1000000→(∀s∈l,vT s)→(gj k l).length≤l.length*188
 |[],_,_,_=>Nat.zero_le _
 |s::r,k,hk,h=>by
  rw[List.length_cons]at hk
  have h1:=rf (i:=k) (by omega) (h s (by simp))
  have h2:=vU (h s (by simp))
  have h3:=uw (l:=r) (k:=k+1) (by omega) fun s hs=>h s (List.mem_cons_of_mem _ hs)
  unfold gj
  rw[nF]
  simp only[List.length_append,List.length_cons]
  omega
theorem vV: ∀{l:List cj},(∀w∈l,mI w.src∧mI w.dst∧mI w.dF)→(jY l).length≤l.length*31
 |[],_=>Nat.zero_le _
 |w::r,h=>by
  have h1:=nG (h w (by simp))
  have h3:=vV (l:=r) fun s hs=>h s (List.mem_cons_of_mem _ hs)
  unfold jY
  simp only[List.length_append,List.length_cons]
  omega
theorem Xi{f:bV}(h:OC f):(tD f).length≤8192:=by
 have h1:=xv h.min h.max
 have h2:=uw (k:=0) (by have:=h.n40;omega) h.steps
 have h3:=vV h.J9
 have:=h.n40;have:=h.Vz
 unfold tD
 simp only[List.length_append,List.length_cons]
 omega
def aO(c n:Int):Int:=(if c<0 then -(c+1)else c).tmod n
theorem dq{c n:Int}(hn:0<n):0≤aO c n∧aO c n<n:=by
 unfold aO
 have h:0≤(if c<0 then -(c+1)else c):=by split<;>omega
 exact⟨Int.tmod_nonneg _ h,Int.tmod_lt_of_pos _ hn⟩
theorem lS{c n:Int}(h:mH c)(hn:0<n):mH (c.tdiv n):=by
 unfold mH at h⊢
 rcases Int.lt_or_le c 0 with h0|h0
 ·have h1:0≤(-c).tdiv n:=Int.tdiv_nonneg (by omega) (by omega)
  have h2:(-c).tdiv n≤ -c:=Int.tdiv_le_self _ (by omega)
  rw[Int.neg_tdiv]at h1 h2
  omega
 ·have h1:0≤c.tdiv n:=Int.tdiv_nonneg h0 (by omega)
  have h2:c.tdiv n≤c:=Int.tdiv_le_self _ h0
  omega
structure Y6 where
 y0:Int
 y1:Int
 y2:Int
 y3:Int
 y4:Int
 y5:Int
structure Y6.fit(y:Y6):Prop where
 h0:mH y.y0
 h1:mH y.y1
 h2:mH y.y2
 h3:mH y.y3
 h4:mH y.y4
 h5:mH y.y5
structure Y3 where
 z0:Int
 z1:Int
 z2:Int
structure Y3.fit(z:Y3):Prop where
 h0:mH z.z0
 h1:mH z.z1
 h2:mH z.z2
def yj:Y6:=⟨0,0,0,0,0,0⟩
theorem Hj:yj.fit:=⟨⟨by decide,by decide⟩,⟨by decide,by decide⟩,⟨by decide,by decide⟩,⟨by decide,by decide⟩,⟨by decide,by decide⟩,⟨by decide,by decide⟩⟩
def fP(y:Y6):List Int:=aO y.y2 6::if aO (y.y2.tdiv 6) 2=0 then [aO y.y2 6+1+aO (y.y2.tdiv 12) 3]else []
def gL(y:Y6)(n i:Nat):List Int:=
 if(i:Int)<n-1∧0<aO y.y3 12 then
  ((i:Int)+1)::if(i:Int)+2+aO (y.y3.tdiv 12) 3<n∧aO (y.y3.tdiv 36) 3=0 then [(i:Int)+2+aO (y.y3.tdiv 12) 3]else []
 else []
def oM(y:Y6)(n i:Nat):Step:=
 ⟨1+aO y.y0 5,fP y,1+aO y.y1 30,1+aO y.y1 30+aO (y.y1.tdiv 30) 20,gL y n i,if aO y.y4 4=0 then aO (y.y4.tdiv 4) (i+1)else -1,if aO y.y4 4=0 then 1+aO y.y5 3 else 0⟩
def eM(x:List Y6):Nat:=max 1 (min x.length 8)
theorem vx(x:List Y6):1≤eM x∧eM x≤8:=by unfold eM;omega
def j6(x:List Y6)(k:Nat):List Step:=(List.range k).map fun i=>oM (x.getD i yj) (eM x) i
theorem xw(x:List Y6)(k:Nat):j6 x (k+1)=j6 x k++[oM (x.getD k yj) (eM x) k]:=by
 unfold j6;rw[List.range_succ,List.map_append];rfl
theorem yi(x:List Y6)(k:Nat):(j6 x k).length=k:=by simp[j6]
def vW(n:Nat)(z:Y3):cj:=⟨aO z.z0 n,aO z.z1 n,10+aO z.z2 150⟩
def ux(n:Nat)(l:List cj)(z:Y3):List cj:=if(vW n z).src≠(vW n z).dst∧follows l (vW n z)=true then l++[vW n z]else l
def gO(n:Nat)(zs:List Y3)(k:Nat):List cj:=(zs.take k).foldl (ux n) []
theorem rD(n:Nat)(zs:List Y3)(k:Nat)(h:k<zs.length):gO n zs (k+1)=ux n (gO n zs k) zs[k]:=by
 unfold gO;rw[List.take_add_one,List.getElem?_eq_getElem h,List.foldl_append];rfl
theorem uy(n:Nat)(zs:List Y3): ∀k,k≤zs.length→(gO n zs k).length≤k
 |0,_=>by simp[gO]
 |k+1,h=>by
  have ih:=uy n zs k (by omega)
  rw[rD n zs k (by omega)]
  unfold ux
  split
  ·rw[List.length_append];simp only[List.length_cons,List.length_nil];omega
  ·omega
def mk(x:List Y6)(zs:List Y3):bV:=⟨2,5,j6 x (eM x),gO (eM x) zs (min zs.length 4)⟩
theorem zh(y:Y6)(n i:Nat)(hi:i<n):cg (oM y n i) n=true:=by
 have p0:=dq (c:=y.y0) (n:=5) (by omega)
 have p1:=dq (c:=y.y1) (n:=30) (by omega)
 have p2:=dq (c:=y.y1.tdiv 30) (n:=20) (by omega)
 have p3:=dq (c:=y.y2) (n:=6) (by omega)
 have p4:=dq (c:=y.y2.tdiv 12) (n:=3) (by omega)
 have p5:=dq (c:=y.y3.tdiv 12) (n:=3) (by omega)
 have p6:=dq (c:=y.y4.tdiv 4) (n:=(i:Int)+1) (by omega)
 have p7:=dq (c:=y.y5) (n:=3) (by omega)
 have ht:ascending (fP y) 0 59=true∧within (fP y).length 1 8=true:=by
  unfold fP
  split
  ·simp[ascending,kU,within];omega
  ·simp[ascending,kU,within];omega
 have hx:ascending (gL y n i) 0 (n-1)=true∧(gL y n i).length≤4:=by
  unfold gL
  split
  ·rename_i h
   split
   ·rename_i h'
    simp[ascending,kU,within];omega
   ·simp[ascending,kU,within];omega
  ·simp[ascending]
 have hb:((if aO y.y4 4=0 then aO (y.y4.tdiv 4) (i+1)else -1)== -1&&(if aO y.y4 4=0 then 1+aO y.y5 3 else 0)==0||within (if aO y.y4 4=0 then aO (y.y4.tdiv 4) (i+1)else -1) 0 (n-1)&&within (if aO y.y4 4=0 then 1+aO y.y5 3 else 0) 1 9)=true:=by
  split
  ·simp[within];right;omega
  ·simp
 unfold cg oM
 simp only[ht.1,ht.2,hx.1,hb,Bool.true_and,Bool.and_true,Bool.and_eq_true,decide_eq_true_eq]
 have:=hx.2
 refine⟨⟨⟨⟨?_,?_⟩,?_⟩,?_⟩,?_⟩
 ·omega
 ·unfold within;simp;omega
 ·omega
 ·omega
 ·omega
theorem rE{n:Int}{w:cj}: ∀{l pre:List cj},ek n pre (l++[w])=(ek n pre l&&(dS w n&&follows (pre++l) w))
 |[],pre=>by simp[ek]
 |v::r,pre=>by
  rw[List.cons_append]
  unfold ek
  rw[rE,List.append_assoc]
  simp[Bool.and_assoc]
theorem ze(n:Nat)(hn:1≤n)(zs:List Y3): ∀k,k≤zs.length→ek n [] (gO n zs k)=true
 |0,_=>by simp[gO,ek]
 |k+1,h=>by
  have ih:=ze n hn zs k (by omega)
  rw[rD n zs k (by omega)]
  generalize zs[k]=z
  unfold ux
  split
  ·rename_i hc
   rw[rE,ih,List.nil_append,hc.2,Bool.and_true,Bool.true_and]
   have p0:=dq (c:=z.z0) (n:=n) (by omega)
   have p1:=dq (c:=z.z1) (n:=n) (by omega)
   have p2:=dq (c:=z.z2) (n:=150) (by omega)
   have h1:=hc.1
   unfold vW at h1
   unfold dS vW within
   simp only[Bool.and_eq_true,decide_eq_true_eq,bne_iff_ne,ne_eq]
   exact⟨⟨⟨⟨by omega,by omega⟩,by omega,by omega⟩,h1⟩,by omega,by omega⟩
  ·exact ih
theorem E7(x:List Y6)(zs:List Y3):valid (mk x zs)=true:=by
 have hn:=vx x
 have hl:=yi x (eM x)
 have hw:=uy (eM x) zs (min zs.length 4) (by omega)
 have hk:=ze (eM x) hn.1 zs (min zs.length 4) (by omega)
 unfold valid
 simp only[Bool.and_eq_true,decide_eq_true_eq,List.all_eq_true]
 refine⟨⟨⟨⟨by simp[eh,mk],?_⟩,?_⟩,?_⟩,?_⟩
 ·unfold within mk;simp only[hl];simp;omega
 ·show((gO (eM x) zs (min zs.length 4)).length:Int)≤20;omega
 ·intro s hs
  unfold mk at hs⊢
  simp only[hl]
  unfold j6 at hs
  obtain⟨i,hi,rfl⟩:=List.mem_map.1 hs
  exact zh _ _ i (List.mem_range.1 hi)
 ·unfold mk;simp only[hl];exact hk
end Go.Proofs.YtebobfdheanknaaGreatDoor
namespace Go.Proofs.YtebobfdheanknaaGreatDoor
open Go Go.K
set_option maxRecDepth 10000
attribute [local irreducible] W WL cT bu bX bA bB bD cW cG
set_option maxHeartbeats 4000000
theorem iK(c n:Int)(g:G)(hc:mH c)(hn:n≠0):CallsIn Wd 0 Tryz.prog 79 #[.int .i64 c,.int .i64 n] g.w (cR g fun _ r=>r= .int .i64 (aO c n)):=by
 have hs:=St.start g
 refine enter Tryz.func79 rfl Tryz.ntmps79 rfl ?_
 unfold mH at hc
 refine aX rfl ?_;apply aB;refine aX rfl ?_
 by_cases uD:c<0
 ·refine aJ (b:=decide (c<0)) (by simp[uD]) rfl ?_
  apply ar;refine ba rfl ?_;refine cP 2 rfl ?_
  refine an rfl rfl (nR rfl rfl rfl hn ?_)
  refine ba rfl ?_
  refine aF (aV rfl rfl (hs.ret ?_))
  unfold aO
  rw[if_pos uD,wr (n:=c+1) (by omega) (by omega),wr (by omega) (by omega),Int.zero_sub]
 ·refine aS (b:=decide (c<0)) (by simp;omega) rfl ?_
  apply aE;apply au;refine cP 2 rfl ?_
  refine an rfl rfl (nR rfl rfl rfl hn ?_)
  refine ba rfl ?_
  refine aF (aV rfl rfl (hs.ret ?_))
  unfold aO
  rw[if_neg uD]
theorem GH(c n:Int)(g:G)(hc:mH c)(hn:n≠0):CallsIn Wd 0 Tryz.prog 39 #[.int .i64 c,.int .i64 n] g.w (cR g fun _ r=>r= .int .i64 (aO c n)):=by
 have hs:=St.start g
 refine enter Tryz.func39 rfl Tryz.ntmps39 rfl ?_
 unfold mH at hc
 refine aX rfl ?_;apply aB;refine aX rfl ?_
 by_cases uD:c<0
 ·refine aJ (b:=decide (c<0)) (by simp[uD]) rfl ?_
  apply ar;refine ba rfl ?_;refine cP 2 rfl ?_
  refine an rfl rfl (nR rfl rfl rfl hn ?_)
  refine ba rfl ?_
  refine aF (aV rfl rfl (hs.ret ?_))
  unfold aO
  rw[if_pos uD,wr (n:=c+1) (by omega) (by omega),wr (by omega) (by omega),Int.zero_sub]
 ·refine aS (b:=decide (c<0)) (by simp;omega) rfl ?_
  apply aE;apply au;refine cP 2 rfl ?_
  refine an rfl rfl (nR rfl rfl rfl hn ?_)
  refine ba rfl ?_
  refine aF (aV rfl rfl (hs.ret ?_))
  unfold aO
  rw[if_neg uD]
theorem qk(v w:cj)(g:G):CallsIn Wd 0 Tryz.prog 80 #[.agg (kO v).toArray,.agg (kO w).toArray] g.w (cR g fun _ r=>r= .bool (kW v w)):=by
 have hs:=St.start g
 have aq:=G.le.refl g
 unfold kO
 refine enter Tryz.func80 rfl Tryz.ntmps80 rfl ?_
 apply c_
 refine an rfl rfl (aR rfl hs rfl rfl ?_);clear hs;rintro bx g1 hs ah
 obtain⟨g2,bR,aU,ah,aL⟩:=hs.a_ (i:=0) rfl;replace hs:=aU;clear aU;rw[←bR]
 have aC:=aL
 clear aL bR ah
 skip
 refine an rfl rfl (aR rfl hs rfl rfl ?_);clear hs;rintro W5 g1 hs ah;replace aC:=aC.mono ah
 obtain⟨g2,bR,aU,ah,aL⟩:=hs.a_ (i:=0) rfl;replace hs:=aU;clear aU;rw[←bR];replace aC:=aC.mono ah
 have aP:=aL
 clear aL bR ah
 refine ba rfl ?_;refine dx 6 [.z aC,.z aP] (St.start _) rfl ?_
 unfold kW
 cases h1:decide (v.src<w.src)with
 |true=>
  refine ba rfl ?_
  refine aF ?_
  skip
  refine aV rfl rfl (hs.ret ?_)
  rfl
 |false=>
  refine Wm 6 [.z aC,.z aP] (St.start _) rfl ?_
  cases h2:v.src==w.src with
  |false=>
   refine ba rfl ?_
   refine aF ?_
   skip
   refine aV rfl rfl (hs.ret ?_)
   rfl
  |true=>
   refine A3 [.z aC,.z aP] (St.start _) rfl ?_
   refine aF ?_
   skip
   refine aV rfl rfl (hs.ret ?_)
   rfl
def R2(z:Y3):Fact:=
 ⟨fun v g=> ∃b p,v= .pointer (some ⟨b,p,none⟩)∧EP g b p [.int .i64 z.z0,.int .i64 z.z1,.int .i64 z.z2],fun _ _ _ hf ⟨b,p,e,h1⟩=>⟨b,p,e,h1.mono hf.le⟩⟩
def jF(n:Int):Fact:=⟨fun v g=> ∃b p,v= .pointer (some ⟨b,p,none⟩)∧EP g b p [.int .i64 n],fun _ _ _ hf ⟨b,p,e,h1⟩=>⟨b,p,e,h1.mono hf.le⟩⟩
instance:El Y6 where
 k:=6
 pos:=by omega
 rc _ cs y:=cs=[.int .i64 y.y0,.int .i64 y.y1,.int .i64 y.y2,.int .i64 y.y3,.int .i64 y.y4,.int .i64 y.y5]
 len h:=by rw[h];rfl
 mono _ h:=h
 one h:=by rw[h];simp[Value.oneCell']
instance:El Y3 where
 k:=3
 pos:=by omega
 rc _ cs y:=cs=[.int .i64 y.z0,.int .i64 y.z1,.int .i64 y.z2]
 len h:=by rw[h];rfl
 mono _ h:=h
 one h:=by rw[h];simp[Value.oneCell']
theorem qn: ∀(l:List cj) (w:cj),j7 (l++[w])=j7 l++kO w
 |[],w=>by simp[j7]
 |v::l,w=>by rw[List.cons_append];simp only[j7];rw[qn l w,List.append_assoc]
theorem CU{l:List cj}{v:cj}(h:l.getLast? =some v):ve T 141 (j7 l) ((l.length-1)*3)=some (.agg (kO v).toArray):=by
 obtain⟨r,rfl⟩: ∃r,l=r++[v]:=by
  rcases List.eq_nil_or_concat l with rfl|⟨r,x,rfl⟩
  ·cases h
  ·rw[List.concat_eq_append]at h⊢
   rw[List.getLast?_append]at h
   simp at h
   exact⟨r,by rw[h]⟩
 rw[qn,List.length_append]
 have hl:=uC r
 show(bif Nat.ble ((r.length+1-1)*3+3) (j7 r++kO v).length then some (Value.agg (((j7 r++kO v).drop ((r.length+1-1)*3)).take 3).toArray)else none)=_
 rw[Nat.add_sub_cancel,Nat.ble_eq_true_of_le (by rw[List.length_append,hl];exact Nat.le_refl _),←hl,List.drop_left]
 rfl
end Go.Proofs.YtebobfdheanknaaGreatDoor
namespace Go.Proofs.YtebobfdheanknaaGreatDoor
open Go Go.K
set_option maxRecDepth 10000
attribute [local irreducible] W WL cT bu bX bA bB bD cW cG
set_option maxHeartbeats 8000000
theorem Fu{B e k q m c:Nat}{ad:Option Addr}{xs:List Value}{w:World}(h:Row B e k (.slice ad m c) q xs w)(hm:m≠0): ∃b p,ad=some ⟨b,p,none⟩:=by
 rcases h.2 with⟨_,a',hv⟩|⟨b,p,cap,cur,hv,_⟩
 ·simp only[Value.slice.injEq]at hv;omega
 ·simp only[Value.slice.injEq]at hv
  exact⟨b,p,hv.1⟩
theorem Jr(v u:Value)(x:List Y6)(zs:List Y3)(g:G)(aH:Rs g v x)(aT:Rs g u zs)(hx: ∀y∈x,y.fit)(hz: ∀z∈zs,z.fit):
  CallsIn Wd 0 Tryz.prog 36 #[v,u] g.w (cR g fun g' r=>fA g' r (mk x zs)):=by
 obtain⟨a,c,rfl⟩:=aH.isSlice
 obtain⟨a2,c2,rfl⟩:=aT.isSlice
 have hlen:=aH.dU
 have Fv:=aT.dU
 unfold maxLen at hlen Fv
 have hs:=St.start g
 have aq:=G.le.refl g
 have hn:=vx x
 refine enter Tryz.func36 rfl Tryz.ntmps36 rfl ?_
 apply c_
 refine an rfl rfl (aK T.ok rfl hs rfl rfl ?_);clear hs;rintro br g1 hs ah;obtain⟨aH,aT⟩:=cC ah aH aT
 apply cf;refine aX rfl ?_;apply c_
 have hN:(if(1:Int)<(if(8:Int)<(x.length:Int)then 8 else(x.length:Int))then(if(8:Int)<(x.length:Int)then 8 else(x.length:Int))else 1)=(eM x:Int):=by
  unfold eM
  split<;>split<;>omega
 refine kC (.int .i64 (eM x)) (t:=5) rfl (congrArg (Value.int .i64) hN) ?_
 refine an rfl rfl (aQ T.ok rfl (vs:=[(0,.int .i64 2),(1,.int .i64 5)]) (cells:=[.int .i64 2,.int .i64 5,.slice none 0 0,.slice none 0 0]) rfl rfl rfl rfl [(0,1),(1,1),(2,1),(3,1)] rfl (by kernel_rfl) ?_)
 skip
 refine an rfl rfl (aK T.ok rfl hs rfl rfl ?_);clear hs;rintro bf g1 hs ah;obtain⟨aH,aT⟩:=cC ah aH aT
 skip
 refine bg rfl (aA T.ok 0 rfl hs rfl rfl rfl rfl rfl rfl rfl rfl rfl ?_);replace hs:=hs;rintro g1 hs ah;obtain⟨aH,aT⟩:=cC ah aH aT
 apply cf;apply aB;refine aX rfl ?_;apply aG
 have qz:=aH;have xx:=aT;have ie:=G.le.refl g1
 replace hs:=hs.gI 65 7 none
 refine bS (fun m a' w=> ∃(k:Nat) (sv:Value) (cells:List Value) (g3:G),w=g3.w∧St g g3 [.row 65 7 sv k cells,.obj bf (.cells [.int .i64 2,.int .i64 5,sv,.slice none 0 0].toArray 30 (0,0)),.obj br (.cells [.int .i64 0,.int .i64 0,.slice none 0 0,.slice none 0 0].toArray 30 (0,0))]∧G.le g1 g3∧k≤eM x∧m=eM x-k∧cO g3 cells (j6 x k)∧
   Fr 193 [] [(0,.slice a x.length c),(1,.slice a2 zs.length c2),(4,.pointer (some ⟨br,0,none⟩)),(5,.int .i64 (eM x)),(6,.pointer (some ⟨bf,0,none⟩)),(7,.int .i64 k)] a') (eM x)
  (fun a' ha=>⟨0,_,[],g1,rfl,hs,ie,Nat.zero_le _,rfl,rfl,ha.keep (by(repeat (first|exact trivial|refine⟨rfl,?_⟩)))⟩) ?_
 clear hs ie aH aT
 rintro m a' _ ⟨k,sv,cells,g3,rfl,hs,ie,hk,rfl,eK,eI⟩
 have aH:=qz.mono ie
 obtain⟨sa,sc,rfl⟩:=(hs.own 0 _ rfl).1.form
 revert a'
 apply cQ;apply aB;refine aX rfl ?_
 by_cases bh:k<eM x
 ·refine aJ (b:=decide ((k:Int)<(eM x:Int))) (by simp;omega) rfl ?_
  have dm:=xw x k
  have R3:=eK;have r8:=ie
  have cN:=G.le.refl g3
  apply aE;apply au;apply aB;apply aG;apply c_
  refine an rfl rfl (aK T.ok rfl hs rfl rfl ?_);clear hs;rintro bY g1 hs ah;obtain⟨cN,aH⟩:=cC ah cN aH
  apply cf;apply aB;refine aX rfl ?_
  refine lL (fun a' w=> ∃(g4:G),w=g4.w∧G.le g3 g4∧(x.getD k yj).fit∧EP g4 bY 0 [.int .i64 (x.getD k yj).y0,.int .i64 (x.getD k yj).y1,.int .i64 (x.getD k yj).y2,.int .i64 (x.getD k yj).y3,.int .i64 (x.getD k yj).y4,.int .i64 (x.getD k yj).y5]∧
   St g g4 [.row 65 7 (.slice sa k sc) k cells,.obj bf (.cells [.int .i64 2,.int .i64 5,.slice sa k sc,.slice none 0 0].toArray 30 (0,0)),.obj br (.cells [.int .i64 0,.int .i64 0,.slice none 0 0,.slice none 0 0].toArray 30 (0,0))]∧
   Fr 193 [] [(0,.slice a x.length c),(1,.slice a2 zs.length c2),(4,.pointer (some ⟨br,0,none⟩)),(5,.int .i64 (eM x)),(6,.pointer (some ⟨bf,0,none⟩)),(7,.int .i64 k),(8,.pointer (some ⟨bY,0,none⟩))] a') ?_ ?_
  ·by_cases R4:k<x.length
   ·refine aJ (b:=decide ((k:Int)<(x.length:Int))) (by simp;omega) rfl ?_
    have jo:=hx _ (List.getElem_mem R4)
    have NQ:x.getD k yj=x[k]:=by rw[List.getD_eq_getElem?_getD,List.getElem?_eq_getElem R4];rfl
    have ic:dA x (k:Int)=some x[k]:=by simp[dA,R4]
    rw[NQ]
    generalize x[k]=y at*
    apply ar;refine Wp 2 rfl ?_
    refine an rfl rfl (aW T.ok rfl aH (y:=y) ic rfl rfl rfl rfl rfl rfl ?_)
    rintro b p ys aL rfl
    refine Wm 1 [.e aL 0] (St.start _) rfl ?_
    skip
    refine bg rfl (aA T.ok 0 rfl hs rfl rfl rfl rfl rfl rfl rfl rfl rfl ?_);replace hs:=hs;rintro g1 hs ah;replace cN:=G.le.trans cN ah
    obtain⟨g2,bR,aU,ah,aL⟩:=hs.a_ (i:=0) rfl;replace hs:=aU;clear aU;rw[←bR];replace cN:=G.le.trans cN ah
    apply aD
    exact fun a ha=>⟨_,rfl,cN,jo,aL,hs,ha.keep (by(repeat (first|exact trivial|refine⟨rfl,?_⟩)))⟩
   ·refine aS (b:=decide ((k:Int)<(x.length:Int))) (by simp;omega) rfl ?_
    have NQ:x.getD k yj=yj:=by rw[List.getD_eq_getElem?_getD,List.getElem?_eq_none (by omega)];rfl
    rw[NQ]
    obtain⟨g2,bR,aU,ah,aL⟩:=hs.a_ (i:=0) rfl;replace hs:=aU;clear aU;rw[←bR];replace cN:=G.le.trans cN ah
    apply aE
    exact fun a ha=>⟨_,rfl,cN,Hj,aL,hs,ha.keep (by(repeat (first|exact trivial|refine⟨rfl,?_⟩)))⟩
  clear hs cN aH eK ie
  rintro a' _ ⟨g4,rfl,cN,jo,aC,hs,eI⟩
  have VJ:oM (x.getD k yj) (eM x) k=oM (x.getD k yj) (eM x) k:=rfl
  generalize hy:x.getD k yj=y at*
  clear VJ
  revert a'
  have p0:=dq (c:=y.y0) (n:=5) (by omega)
  have p1:=dq (c:=y.y1) (n:=30) (by omega)
  have p2:=dq (c:=y.y1.tdiv 30) (n:=20) (by omega)
  have p3:=dq (c:=y.y2) (n:=6) (by omega)
  have p4:=dq (c:=y.y2.tdiv 12) (n:=3) (by omega)
  have p5:=dq (c:=y.y3.tdiv 12) (n:=3) (by omega)
  have p6:=dq (c:=y.y4.tdiv 4) (n:=(k:Int)+1) (by omega)
  have p7:=dq (c:=y.y5) (n:=3) (by omega)
  have q1:=lS (n:=30) jo.h1 (by omega)
  have q2:=lS (n:=6) jo.h2 (by omega)
  have q3:=lS (n:=12) jo.h2 (by omega)
  have q4:=lS (n:=12) jo.h3 (by omega)
  have q5:=lS (n:=36) jo.h3 (by omega)
  have q6:=lS (n:=4) jo.h4 (by omega)
  apply cQ;apply aB
  have oh:=hs
  apply ed (fj (fe (.f (B_ g4.dr.w.heap.size [.int .i64 0,.slice none 0 0,.int .i64 0,.int .i64 0,.slice none 0 0,.int .i64 0,.int .i64 0] 65)::[]))) 10 [(8,41),(9,9)] (by kernel_rfl)
  ·refine aw (ak (js:=[]) (by kernel_rfl) fun gd hf=>?_) ?_
   ·skip
    apply aj
    (refine az rfl ?_;refine df T.ok (q:=0) rfl rfl rfl rfl rfl rfl (by decide) ?_;refine⟨_,rfl,aZ.refl _,?_⟩;exact rfl)
   refine Dm [[0]] [.e aC 0] (St.start _) (by kernel_rfl) rfl ?_
   refine aw (ak (js:=[(1,34)]) (by kernel_rfl) fun gd hf=>?_) ?_
   ·skip
    refine ai rfl ?_
    apply aj
    refine az rfl ?_
    refine ay oy aI rfl rfl rfl rfl rfl (iK (y.y0) (5) _ (jo.h0) (by decide)) fun g' v h1 h2=>⟨g',rfl,h1,?_⟩
    exact h2
   refine aw (ak (js:=[(2,35)]) (by kernel_rfl) fun gd hf=>?_) ?_
   ·skip
    refine ai rfl ?_
    apply aj
    refine az rfl ?_
    refine aM _ T.ok rfl ?_
    refine⟨_,rfl,aZ.refl _,?_⟩
    exact congrArg (Value.int .i64) (show _=1+aO y.y0 5 from wr (by omega) (by omega))
   refine aw (ak (js:=[]) (by kernel_rfl) fun gd hf=>?_) ?_
   ·skip
    apply aj
    (refine az rfl ?_;refine df T.ok (q:=1) rfl rfl rfl rfl rfl rfl (by decide) ?_;refine⟨_,rfl,aZ.refl _,?_⟩;exact rfl)
   refine Dm [[4]] [.e aC 1] (St.start _) (by kernel_rfl) rfl ?_
   refine aw (ak (js:=[(5,38)]) (by kernel_rfl) fun gd hf=>?_) ?_
   ·skip
    refine ai rfl ?_
    apply aj
    refine az rfl ?_
    refine ay oy aI rfl rfl rfl rfl rfl (iK (y.y1) (30) _ (jo.h1) (by decide)) fun g' v h1 h2=>⟨g',rfl,h1,?_⟩
    exact h2
   refine aw (ak (js:=[(6,39)]) (by kernel_rfl) fun gd hf=>?_) ?_
   ·skip
    refine ai rfl ?_
    apply aj
    refine az rfl ?_
    refine aM _ T.ok rfl ?_
    refine⟨_,rfl,aZ.refl _,?_⟩
    exact congrArg (Value.int .i64) (show _=1+aO y.y1 30 from wr (by omega) (by omega))
   refine aw (ak (js:=[(3,36),(7,40)]) (by kernel_rfl) fun gd hf=>?_) ?_
   ·skip
    refine ai rfl ?_;refine ai rfl ?_
    apply aj
    refine az rfl ?_
    refine aQ T.ok rfl (vs:=[(0,.int .i64 (1+aO y.y0 5)),(2,.int .i64 (1+aO y.y1 30)),(5,.int .i64 (-1))]) (cells:=[.int .i64 (1+aO y.y0 5),.slice none 0 0,.int .i64 (1+aO y.y1 30),.int .i64 0,.slice none 0 0,.int .i64 (-1),.int .i64 0]) rfl rfl rfl rfl [(0,1),(1,1),(2,1),(3,1),(4,1),(5,1),(6,1)] rfl (by kernel_rfl) ?_
    exact⟨_,rfl,aZ.refl _,rfl⟩
   refine aw (ak (js:=[]) (by kernel_rfl) fun gd hf=>?_) ?_
   ·skip
    apply aj
    refine az rfl ?_
    refine aK T.ok rfl (St.start gd) rfl rfl ?_
    intro b g' iS hle
    have ho:=iS.own 0 _ rfl
    exact⟨g',rfl,iS.mS,b,rfl,Nat.le_trans hf.below.size ho.1,ho.2⟩
   exact fJ
  intro g1 aN;refine ai rfl ?_;refine aY fun v9 h9=>?_;apply aj
  replace hs:=hs.dr.call aN;have ah:=(G.bJ _).trans aN.le;obtain⟨cN,aC⟩:=cC ah cN aC
  obtain⟨bs,rfl,uS⟩:=h9
  replace hs:=oh.dr.gJ aN uS;clear oh
  skip
  refine bg rfl (aA T.ok 0 rfl hs rfl rfl rfl rfl rfl rfl rfl rfl rfl ?_);replace hs:=hs;rintro g1 hs ah;obtain⟨cN,aC⟩:=cC ah cN aC
  apply cf;apply aB
  apply bO hs (gE (eJ (fe []))) 7 [(6,48)] (by kernel_rfl) rfl
  ·refine Dm [[],[0]] [.o 0] hs (by kernel_rfl) rfl ?_
   refine aw (ak (js:=[]) (by kernel_rfl) fun gd hf=>?_) ?_
   ·skip
    apply aj
    (refine az rfl ?_;refine df T.ok (q:=1) rfl rfl rfl rfl rfl rfl (by decide) ?_;refine⟨_,rfl,aZ.refl _,?_⟩;exact rfl)
   refine Dm [[2]] [.e aC 1] (St.start _) (by kernel_rfl) rfl ?_
   refine aw (ak (js:=[(3,45)]) (by kernel_rfl) fun gd hf=>?_) ?_
   ·skip
    refine ai rfl ?_
    apply aj
    refine az rfl ?_
    refine aM _ T.ok rfl ?_
    refine⟨_,rfl,aZ.refl _,?_⟩
    exact congrArg (Value.int .i64) (show _=y.y1.tdiv 30 from wr q1.1 q1.2)
   refine aw (ak (js:=[(4,46)]) (by kernel_rfl) fun gd hf=>?_) ?_
   ·skip
    refine ai rfl ?_
    apply aj
    refine az rfl ?_
    refine ay oy aI rfl rfl rfl rfl rfl (iK (y.y1.tdiv 30) (20) _ (q1) (by decide)) fun g' v h1 h2=>⟨g',rfl,h1,?_⟩
    exact h2
   refine aw (ak (js:=[(1,43),(5,47)]) (by kernel_rfl) fun gd hf=>?_) ?_
   ·skip
    refine ai rfl ?_;refine ai rfl ?_
    apply aj
    refine az rfl ?_
    refine aM _ T.ok rfl ?_
    refine⟨_,rfl,aZ.refl _,?_⟩
    exact congrArg (Value.int .i64) (show _=1+aO y.y1 30+aO (y.y1.tdiv 30) 20 from wr (by omega) (by omega))
   exact fJ
  clear hs;intro g1 hs ah;obtain⟨cN,aC⟩:=cC ah cN aC
  refine Wp 1 rfl ?_
  refine bg rfl (aA T.ok 0 rfl hs rfl rfl rfl rfl rfl rfl rfl rfl rfl ?_);replace hs:=hs;rintro g1 hs ah;obtain⟨cN,aC⟩:=cC ah cN aC
  apply cf;apply c_
  refine an rfl rfl (df T.ok (q:=2) rfl rfl rfl rfl rfl rfl (by decide) ?_)
  refine Wm 1 [.z aC] (St.start _) rfl ?_
  refine an rfl rfl (ay oy aI rfl rfl rfl rfl rfl (iK y.y2 6 _ jo.h2 (by decide)) ?_);rintro g1 _ aN rfl;replace hs:=hs.call aN;have ah:=aN.le;obtain⟨cN,aC⟩:=cC ah cN aC
  refine ba rfl ?_;refine cP 1 rfl ?_
  refine an rfl rfl (bj T.ok rfl hs (vs:=[(0,.int .i64 (aO y.y2 6))]) (cells:=[.int .i64 (aO y.y2 6)]) rfl rfl rfl rfl rfl rfl (by decide) (by decide) (by kernel_rfl) rfl ?_)
  clear hs
  rintro bt gl hs ah;obtain⟨cN,aC⟩:=cC ah cN aC
  obtain⟨gz,ik,cS,iT,bT⟩:=hs.cL (α:=Int) (xs:=[aO y.y2 6]) (i:=0) rfl (cO.ints _ [aO y.y2 6])
  have ah:=iT;rw[←ik];replace hs:=cS;clear cS;obtain⟨cN,aC⟩:=cC ah cN aC
  refine Wp 1 rfl ?_
  refine bg rfl (aA T.ok 0 rfl hs rfl rfl rfl rfl rfl rfl rfl rfl rfl ?_);replace hs:=hs;rintro g1 hs ah;obtain⟨cN,aC,bT⟩:=ef ah cN aC bT
  apply cf;apply aB;apply c_
  refine an rfl rfl (df T.ok (q:=2) rfl rfl rfl rfl rfl rfl (by decide) ?_)
  refine Wm 2 [.z aC] (St.start _) rfl ?_
  refine kC (.int .i64 (y.y2.tdiv 6)) (t:=58) rfl (congrArg (Value.int .i64) (wr q2.1 q2.2)) ?_
  refine an rfl rfl (ay oy aI rfl rfl rfl rfl rfl (iK (y.y2.tdiv 6) 2 _ q2 (by decide)) ?_);rintro g1 _ aN rfl;replace hs:=hs.call aN;have ah:=aN.le;obtain⟨cN,aC,bT⟩:=ef ah cN aC bT
  refine ba rfl ?_
  have fy:=G.le.refl g1
  refine lL (fun a' w=> ∃(ta:Option Addr) (tc:Nat) (g5:G),w=g5.w∧g1.le g5∧Rs g5 (.slice ta (fP y).length tc) (fP y)∧St g g5 [.obj bs (.cells [.int .i64 (1+aO y.y0 5),.slice ta (fP y).length tc,.int .i64 (1+aO y.y1 30),.int .i64 (1+aO y.y1 30+aO (y.y1.tdiv 30) 20),.slice none 0 0,.int .i64 (-1),.int .i64 (0)].toArray 65 (0,0)),.row 65 7 (.slice sa k sc) k cells,.obj bf (.cells [.int .i64 2,.int .i64 5,.slice sa k sc,.slice none 0 0].toArray 30 (0,0)),.obj br (.cells [.int .i64 0,.int .i64 0,.slice none 0 0,.slice none 0 0].toArray 30 (0,0))]∧
   Fr 193 [] [(0,.slice a x.length c),(1,.slice a2 zs.length c2),(4,.pointer (some ⟨br,0,none⟩)),(5,.int .i64 (eM x)),(6,.pointer (some ⟨bf,0,none⟩)),(7,.int .i64 k),(8,.pointer (some ⟨bY,0,none⟩)),(9,.pointer (some ⟨bs,0,none⟩))] a') ?_ ?_
  ·by_cases ht:aO (y.y2.tdiv 6) 2=0
   ·have Pm:fP y=[aO y.y2 6]++[aO y.y2 6+1+aO (y.y2.tdiv 12) 3]:=by unfold fP;rw[if_pos ht];rfl
    refine aJ (b:=_) ?_ rfl ?_
    ·simp[ht]
    skip
    apply ed (fj (fe (.f (Fact.rs [aO y.y2 6+1+aO (y.y2.tdiv 12) 3])::(.f (Fact.rs ([aO y.y2 6]++[aO y.y2 6+1+aO (y.y2.tdiv 12) 3]))::[])))) 11 [(10,71)] (by kernel_rfl)
    ·refine Dm [[],[0],[]] [.o 0] hs (by kernel_rfl) rfl ?_
     refine aw (ak (js:=[(2,63)]) (by kernel_rfl) fun gd hf=>?_) ?_
     ·skip
      refine ai rfl ?_
      apply aj
      refine az rfl ?_
      refine aM _ T.ok rfl ?_
      refine⟨_,rfl,aZ.refl _,?_⟩
      exact congrArg (Value.int .i64) (show _=aO y.y2 6+1 from wr (by omega) (by omega))
     refine aw (ak (js:=[]) (by kernel_rfl) fun gd hf=>?_) ?_
     ·skip
      apply aj
      (refine az rfl ?_;refine df T.ok (q:=2) rfl rfl rfl rfl rfl rfl (by decide) ?_;refine⟨_,rfl,aZ.refl _,?_⟩;exact rfl)
     refine Dm [[4]] [.e aC 2] (St.start _) (by kernel_rfl) rfl ?_
     refine aw (ak (js:=[(5,66)]) (by kernel_rfl) fun gd hf=>?_) ?_
     ·skip
      refine ai rfl ?_
      apply aj
      refine az rfl ?_
      refine aM _ T.ok rfl ?_
      refine⟨_,rfl,aZ.refl _,?_⟩
      exact congrArg (Value.int .i64) (show _=y.y2.tdiv 12 from wr q3.1 q3.2)
     refine aw (ak (js:=[(6,67)]) (by kernel_rfl) fun gd hf=>?_) ?_
     ·skip
      refine ai rfl ?_
      apply aj
      refine az rfl ?_
      refine ay oy aI rfl rfl rfl rfl rfl (iK (y.y2.tdiv 12) (3) _ (q3) (by decide)) fun g' v h1 h2=>⟨g',rfl,h1,?_⟩
      exact h2
     refine aw (ak (js:=[(3,64),(7,68)]) (by kernel_rfl) fun gd hf=>?_) ?_
     ·skip
      refine ai rfl ?_;refine ai rfl ?_
      apply aj
      refine az rfl ?_
      refine aM _ T.ok rfl ?_
      refine⟨_,rfl,aZ.refl _,?_⟩
      exact congrArg (Value.int .i64) (show _=aO y.y2 6+1+aO (y.y2.tdiv 12) 3 from wr (by omega) (by omega))
     refine aw (ak (js:=[(8,69)]) (by kernel_rfl) fun gd hf=>?_) ?_
     ·skip
      refine ai rfl ?_
      apply aj
      refine az rfl ?_
      refine bj T.ok rfl (St.start gd) (vs:=[(0,.int .i64 (aO y.y2 6+1+aO (y.y2.tdiv 12) 3))]) (cells:=[.int .i64 (aO y.y2 6+1+aO (y.y2.tdiv 12) 3)]) rfl rfl rfl rfl rfl rfl (by decide) (by decide) (by kernel_rfl) rfl ?_
      intro b2 g2 mK Ht
      obtain⟨g3,sq,Bh,yq,pP⟩:=mK.cL (α:=Int) (xs:=[aO y.y2 6+1+aO (y.y2.tdiv 12) 3]) (i:=0) rfl (cO.ints _ [aO y.y2 6+1+aO (y.y2.tdiv 12) 3])
      exact⟨g3,sq,Bh.mS,pP⟩
     refine aw (ak (js:=[(1,62),(9,70)]) (by kernel_rfl) fun gd hf=>?_) ?_
     ·have eH:=(G.bJ _).trans hf.le
      refine ai rfl ?_;refine aY fun v9 h9=>?_
      apply aj
      obtain⟨ua,uc,rfl⟩:=Rs.isSlice h9
      refine az rfl ?_
      exact nu T.ok rfl rfl rfl (bT.mono eH) h9 (by decide) (by simp) rfl rfl rfl rfl rfl (by show(1+1)*8≤_;decide) (by show 1+1≤_;decide) fun v g' eO hr=>⟨g',rfl,eO,hr⟩
     exact fJ
    intro g1 aN;refine aY fun v10 uH=>?_;apply aj
    replace hs:=hs.dr.call aN;have ah:=(G.bJ _).trans aN.le;obtain⟨fy,cN,aC,bT⟩:=dE ah fy cN aC bT
    have bN:Rs g1 v10 (fP y):=by rw[Pm];exact uH
    clear uH
    obtain⟨ta,tc,rfl⟩:=bN.isSlice
    refine Wp 1 rfl ?_
    refine bg rfl (aA T.ok 0 rfl hs rfl rfl rfl rfl rfl rfl rfl rfl rfl ?_);replace hs:=hs;rintro g6 hs ah;obtain⟨fy,cN,aC,bT,bN⟩:=kN ah fy cN aC bT bN
    apply aD
    exact fun a ha=>⟨ta,tc,g6,rfl,fy,bN,hs,ha.keep (by(repeat (first|exact trivial|refine⟨rfl,?_⟩)))⟩
   ·have Pm:fP y=[aO y.y2 6]:=by unfold fP;rw[if_neg ht]
    refine aS (b:=_) ?_ rfl ?_
    ·simp[ht]
    apply aE
    exact fun a ha=>⟨some ⟨bt,0,none⟩,1,g1,rfl,fy,by rw[Pm];exact bT,by rw[Pm];exact hs,ha.keep (by(repeat (first|exact trivial|refine⟨rfl,?_⟩)))⟩
  clear hs bT
  rintro a' _ ⟨ta,tc,g5,rfl,ah,bT,hs,eI⟩
  obtain⟨fy,cN,aC⟩:=ef ah fy cN aC
  clear fy
  revert a'
  have fy:=G.le.refl g5
  apply cQ
  apply aB
  have DI:gL y (eM x) k=if(k:Int)<eM x-1∧0<aO y.y3 12 then((k:Int)+1)::(if(k:Int)+2+aO (y.y3.tdiv 12) 3<eM x∧aO (y.y3.tdiv 36) 3=0 then [(k:Int)+2+aO (y.y3.tdiv 12) 3]else [])else []:=rfl
  refine lL (fun a' w=> ∃(na:Option Addr) (nc:Nat) (g6:G),w=g6.w∧g5.le g6∧Rs g6 (.slice na (gL y (eM x) k).length nc) (gL y (eM x) k)∧St g g6 [.obj bs (.cells [.int .i64 (1+aO y.y0 5),.slice ta (fP y).length tc,.int .i64 (1+aO y.y1 30),.int .i64 (1+aO y.y1 30+aO (y.y1.tdiv 30) 20),.slice na (gL y (eM x) k).length nc,.int .i64 (-1),.int .i64 (0)].toArray 65 (0,0)),.row 65 7 (.slice sa k sc) k cells,.obj bf (.cells [.int .i64 2,.int .i64 5,.slice sa k sc,.slice none 0 0].toArray 30 (0,0)),.obj br (.cells [.int .i64 0,.int .i64 0,.slice none 0 0,.slice none 0 0].toArray 30 (0,0))]∧
   Fr 193 [] [(0,.slice a x.length c),(1,.slice a2 zs.length c2),(4,.pointer (some ⟨br,0,none⟩)),(5,.int .i64 (eM x)),(6,.pointer (some ⟨bf,0,none⟩)),(7,.int .i64 k),(8,.pointer (some ⟨bY,0,none⟩)),(9,.pointer (some ⟨bs,0,none⟩))] a') ?_ ?_
  ·by_cases d1:(k:Int)<eM x-1
   ·refine cP 5 rfl ?_
    refine cM 77 (b':=true) (by rw[wr (by omega) (by omega)];exact decide_eq_true d1) rfl ?_
    refine an rfl rfl (df T.ok (q:=3) rfl rfl rfl rfl rfl rfl (by decide) ?_)
    refine Wm 1 [.z aC] (St.start _) rfl ?_
    refine an rfl rfl (ay oy aI rfl rfl rfl rfl rfl (iK y.y3 12 _ jo.h3 (by decide)) ?_);rintro g1 _ aN rfl;replace hs:=hs.call aN;have ah:=aN.le;obtain⟨fy,cN,aC,bT⟩:=dE ah fy cN aC bT
    refine ba rfl ?_
    by_cases d2:0<aO y.y3 12
    ·rw[if_pos ⟨d1,d2⟩]at DI
     refine aJ (b:=_) ?_ rfl ?_
     ·simp[d2]
     refine cP 2 rfl ?_
     refine kC (.int .i64 ((k:Int)+1)) (t:=84) rfl (congrArg (Value.int .i64) (wr (by omega) (by omega))) ?_
     refine an rfl rfl (bj T.ok rfl hs (vs:=[(0,.int .i64 ((k:Int)+1))]) (cells:=[.int .i64 ((k:Int)+1)]) rfl rfl rfl rfl rfl rfl (by decide) (by decide) (by kernel_rfl) rfl ?_)
     clear hs
     rintro bn gl hs ah;obtain⟨fy,cN,aC,bT⟩:=dE ah fy cN aC bT
     obtain⟨gz,ik,cS,iT,bN⟩:=hs.cL (α:=Int) (xs:=[(k:Int)+1]) (i:=0) rfl (cO.ints _ [(k:Int)+1])
     have ah:=iT;rw[←ik];replace hs:=cS;clear cS;obtain⟨fy,cN,aC,bT⟩:=dE ah fy cN aC bT
     refine Wp 1 rfl ?_
     refine bg rfl (aA T.ok 0 rfl hs rfl rfl rfl rfl rfl rfl rfl rfl rfl ?_);replace hs:=hs;rintro g1 hs ah;obtain⟨fy,cN,aC,bT,bN⟩:=kN ah fy cN aC bT bN
     apply cf;refine cP 2 rfl ?_
     refine kC (.int .i64 ((k:Int)+2)) (t:=88) rfl (congrArg (Value.int .i64) (wr (by omega) (by omega))) ?_
     refine an rfl rfl (df T.ok (q:=3) rfl rfl rfl rfl rfl rfl (by decide) ?_)
     refine Wm 2 [.z aC] (St.start _) rfl ?_
     refine kC (.int .i64 (y.y3.tdiv 12)) (t:=91) rfl (congrArg (Value.int .i64) (wr q4.1 q4.2)) ?_
     refine an rfl rfl (ay oy aI rfl rfl rfl rfl rfl (iK (y.y3.tdiv 12) 3 _ q4 (by decide)) ?_);rintro g1 _ aN rfl;replace hs:=hs.call aN;have ah:=aN.le;obtain⟨fy,cN,aC,bT,bN⟩:=kN ah fy cN aC bT bN
     refine ba rfl ?_;refine cP 4 rfl ?_
     by_cases d3:(k:Int)+2+aO (y.y3.tdiv 12) 3<eM x
     ·refine cM 97 (b':=true) (by rw[wr (by omega) (by omega)];exact decide_eq_true d3) rfl ?_
      refine an rfl rfl (df T.ok (q:=3) rfl rfl rfl rfl rfl rfl (by decide) ?_)
      refine Wm 2 [.z aC] (St.start _) rfl ?_
      refine kC (.int .i64 (y.y3.tdiv 36)) (t:=100) rfl (congrArg (Value.int .i64) (wr q5.1 q5.2)) ?_
      refine an rfl rfl (ay oy aI rfl rfl rfl rfl rfl (iK (y.y3.tdiv 36) 3 _ q5 (by decide)) ?_);rintro g1 _ aN rfl;replace hs:=hs.call aN;have ah:=aN.le;obtain⟨fy,cN,aC,bT,bN⟩:=kN ah fy cN aC bT bN
      refine ba rfl ?_
      by_cases d4:aO (y.y3.tdiv 36) 3=0
      ·have R5:gL y (eM x) k=[(k:Int)+1]++[(k:Int)+2+aO (y.y3.tdiv 12) 3]:=by rw[DI,if_pos ⟨d3,d4⟩];rfl
       refine aJ (b:=_) ?_ rfl ?_
       ·simp[d4]
       apply ar;refine Wm 3 [.o 0] hs rfl ?_
       refine kC (.int .i64 ((k:Int)+2+aO (y.y3.tdiv 12) 3)) (t:=106) rfl (congrArg (Value.int .i64) (wr (by omega) (by omega))) ?_
       refine an rfl rfl (bj T.ok rfl hs (vs:=[(0,.int .i64 ((k:Int)+2+aO (y.y3.tdiv 12) 3))]) (cells:=[.int .i64 ((k:Int)+2+aO (y.y3.tdiv 12) 3)]) rfl rfl rfl rfl rfl rfl (by decide) (by decide) (by kernel_rfl) rfl ?_)
       clear hs
       rintro W6 gl hs ah;obtain⟨fy,cN,aC,bT,bN⟩:=kN ah fy cN aC bT bN
       obtain⟨gz,ik,cS,iT,dz⟩:=hs.cL (α:=Int) (xs:=[(k:Int)+2+aO (y.y3.tdiv 12) 3]) (i:=0) rfl (cO.ints _ [(k:Int)+2+aO (y.y3.tdiv 12) 3])
       have ah:=iT;rw[←ik];replace hs:=cS;clear cS;obtain⟨fy,cN,aC,bT,bN⟩:=kN ah fy cN aC bT bN
       refine an rfl rfl (nu T.ok rfl rfl rfl bN dz (by decide) (by simp) rfl rfl rfl rfl rfl (by show(1+1)*8≤_;decide) (by show 1+1≤_;decide) ?_)
       rintro v g9 H9 dj
       rw[←R5]at dj
       obtain⟨na,nc,rfl⟩:=dj.isSlice
       replace hs:=hs.call H9
       have ah:=H9.le;obtain⟨fy,cN,aC,bT,bN⟩:=kN ah fy cN aC bT bN
       refine Wp 1 rfl ?_
       refine bg rfl (aA T.ok 0 rfl hs rfl rfl rfl rfl rfl rfl rfl rfl rfl ?_);replace hs:=hs;rintro g6 hs ah;obtain⟨fy,cN,aC,bT,bN,dj⟩:=iu ah fy cN aC bT bN dj
       apply aD
       exact fun a ha=>⟨na,nc,g6,rfl,fy,dj,hs,ha.keep (by(repeat (first|exact trivial|refine⟨rfl,?_⟩)))⟩
      ·have pK:gL y (eM x) k=[(k:Int)+1]:=by rw[DI,if_neg fun h=>d4 h.2]
       refine aS (b:=_) ?_ rfl ?_
       ·simp[d4]
       apply aE
       exact fun a ha=>⟨some ⟨bn,0,none⟩,1,_,rfl,fy,by rw[pK];exact bN,by rw[pK];exact hs,ha.keep (by(repeat (first|exact trivial|refine⟨rfl,?_⟩)))⟩
     ·have pK:gL y (eM x) k=[(k:Int)+1]:=by rw[DI,if_neg fun h=>d3 h.1]
      refine cM 97 (b':=false) (by rw[wr (by omega) (by omega)];exact decide_eq_false d3) rfl ?_
      refine ba rfl ?_
      refine aS rfl rfl ?_
      apply aE
      exact fun a ha=>⟨some ⟨bn,0,none⟩,1,_,rfl,fy,by rw[pK];exact bN,by rw[pK];exact hs,ha.keep (by(repeat (first|exact trivial|refine⟨rfl,?_⟩)))⟩
    ·have Fw:gL y (eM x) k=[]:=by rw[DI,if_neg fun h=>d2 h.2]
     refine aS (b:=_) ?_ rfl ?_
     ·simp;omega
     apply aE
     exact fun a ha=>⟨none,0,_,rfl,fy,by rw[Fw];exact Rs.nil _,by rw[Fw];exact hs,ha.keep (by(repeat (first|exact trivial|refine⟨rfl,?_⟩)))⟩
   ·have Fw:gL y (eM x) k=[]:=by rw[DI,if_neg fun h=>d1 h.1]
    refine cP 5 rfl ?_
    refine cM 77 (b':=false) (by rw[wr (by omega) (by omega)];exact decide_eq_false d1) rfl ?_
    refine ba rfl ?_
    refine aS rfl rfl ?_
    apply aE
    exact fun a ha=>⟨none,0,_,rfl,fy,by rw[Fw];exact Rs.nil _,by rw[Fw];exact hs,ha.keep (by(repeat (first|exact trivial|refine⟨rfl,?_⟩)))⟩
  clear hs
  rintro a' _ ⟨na,nc,g6,rfl,ah,bN,hs,eI⟩
  obtain⟨fy,cN,aC,bT⟩:=dE ah fy cN aC bT
  clear fy
  revert a'
  have fy:=G.le.refl g6
  apply cQ
  apply aB
  refine lL (fun a' w=> ∃(g7:G),w=g7.w∧g6.le g7∧St g g7 [.obj bs (.cells [.int .i64 (1+aO y.y0 5),.slice ta (fP y).length tc,.int .i64 (1+aO y.y1 30),.int .i64 (1+aO y.y1 30+aO (y.y1.tdiv 30) 20),.slice na (gL y (eM x) k).length nc,.int .i64 (if aO y.y4 4=0 then aO (y.y4.tdiv 4) (k+1)else -1),.int .i64 (if aO y.y4 4=0 then 1+aO y.y5 3 else 0)].toArray 65 (0,0)),.row 65 7 (.slice sa k sc) k cells,.obj bf (.cells [.int .i64 2,.int .i64 5,.slice sa k sc,.slice none 0 0].toArray 30 (0,0)),.obj br (.cells [.int .i64 0,.int .i64 0,.slice none 0 0,.slice none 0 0].toArray 30 (0,0))]∧
   Fr 193 [] [(0,.slice a x.length c),(1,.slice a2 zs.length c2),(4,.pointer (some ⟨br,0,none⟩)),(5,.int .i64 (eM x)),(6,.pointer (some ⟨bf,0,none⟩)),(7,.int .i64 k),(8,.pointer (some ⟨bY,0,none⟩)),(9,.pointer (some ⟨bs,0,none⟩))] a') ?_ ?_
  ·apply c_
   refine an rfl rfl (df T.ok (q:=4) rfl rfl rfl rfl rfl rfl (by decide) ?_)
   refine Wm 1 [.z aC] (St.start _) rfl ?_
   refine an rfl rfl (ay oy aI rfl rfl rfl rfl rfl (iK y.y4 4 _ jo.h4 (by decide)) ?_);rintro g1 _ aN rfl;replace hs:=hs.call aN;have ah:=aN.le;obtain⟨fy,cN,aC,bT,bN⟩:=kN ah fy cN aC bT bN
   refine ba rfl ?_
   by_cases d5:aO y.y4 4=0
   ·rw[if_pos d5,if_pos d5]
    refine aJ (b:=_) ?_ rfl ?_
    ·simp[d5]
    apply c_
    refine an rfl rfl (df T.ok (q:=4) rfl rfl rfl rfl rfl rfl (by decide) ?_)
    refine Wm 4 [.z aC] (St.start _) rfl ?_
    refine kC (.int .i64 (y.y4.tdiv 4)) (t:=116) rfl (congrArg (Value.int .i64) (wr q6.1 q6.2)) ?_
    refine kC (.int .i64 ((k:Int)+1)) (t:=118) rfl (congrArg (Value.int .i64) (wr (by omega) (by omega))) ?_
    refine an rfl rfl (ay oy aI rfl rfl rfl rfl rfl (iK (y.y4.tdiv 4) ((k:Int)+1) _ q6 (by omega)) ?_);rintro g1 _ aN rfl;replace hs:=hs.call aN;have ah:=aN.le;obtain⟨fy,cN,aC,bT,bN⟩:=kN ah fy cN aC bT bN
    refine Wp 1 rfl ?_
    refine bg rfl (aA T.ok 0 rfl hs rfl rfl rfl rfl rfl rfl rfl rfl rfl ?_);replace hs:=hs;rintro g1 hs ah;obtain⟨fy,cN,aC,bT,bN⟩:=kN ah fy cN aC bT bN
    apply cf;apply ar
    refine an rfl rfl (df T.ok (q:=5) rfl rfl rfl rfl rfl rfl (by decide) ?_)
    refine Wm 1 [.z aC] (St.start _) rfl ?_
    refine an rfl rfl (ay oy aI rfl rfl rfl rfl rfl (iK y.y5 3 _ jo.h5 (by decide)) ?_);rintro g1 _ aN rfl;replace hs:=hs.call aN;have ah:=aN.le;obtain⟨fy,cN,bT,bN⟩:=dE ah fy cN bT bN
    refine Wp 2 rfl ?_
    rw[wr (n:=1+aO y.y5 3) (by omega) (by omega)]
    refine bg rfl (aA T.ok 0 rfl hs rfl rfl rfl rfl rfl rfl rfl rfl rfl ?_);replace hs:=hs;rintro g1 hs ah;obtain⟨fy,cN,bT,bN⟩:=dE ah fy cN bT bN
    apply aD
    exact fun a ha=>⟨_,rfl,fy,hs,ha.keep (by(repeat (first|exact trivial|refine⟨rfl,?_⟩)))⟩
   ·rw[if_neg d5,if_neg d5]
    refine aS (b:=_) ?_ rfl ?_
    ·simp[d5]
    apply aE
    exact fun a ha=>⟨_,rfl,fy,hs,ha.keep (by(repeat (first|exact trivial|refine⟨rfl,?_⟩)))⟩
  clear hs
  rintro a' _ ⟨g7,rfl,ah,hs,eI⟩
  obtain⟨fy,cN,bT,bN⟩:=dE ah fy cN bT bN
  clear fy
  revert a'
  have eK:=R3.mono cN
  replace ie:=r8.trans cN
  clear aq cN
  apply cQ;apply ar;refine Wm 3 [.o 2,.o 0] hs rfl ?_
  refine an rfl rfl (bj T.ok rfl hs (vs:=[(0,.agg #[.int .i64 (1+aO y.y0 5),.slice ta (fP y).length tc,.int .i64 (1+aO y.y1 30),.int .i64 (1+aO y.y1 30+aO (y.y1.tdiv 30) 20),.slice na (gL y (eM x) k).length nc,.int .i64 (if aO y.y4 4=0 then aO (y.y4.tdiv 4) (k+1)else -1),.int .i64 (if aO y.y4 4=0 then 1+aO y.y5 3 else 0)])]) (cells:=[.int .i64 (1+aO y.y0 5),.slice ta (fP y).length tc,.int .i64 (1+aO y.y1 30),.int .i64 (1+aO y.y1 30+aO (y.y1.tdiv 30) 20),.slice na (gL y (eM x) k).length nc,.int .i64 (if aO y.y4 4=0 then aO (y.y4.tdiv 4) (k+1)else -1),.int .i64 (if aO y.y4 4=0 then 1+aO y.y5 3 else 0)]) rfl rfl rfl rfl rfl rfl (by decide) (by decide) (by kernel_rfl) rfl ?_)
  clear hs
  rintro b2 g4 hs ah;obtain⟨bT,bN⟩:=cC ah bT bN
  replace ie:=ie.trans ah;replace eK:=eK.mono ah
  skip
  refine an rfl rfl (b_ T.ok 2 rfl hs rfl rfl rfl rfl rfl rfl rfl (by decide) rfl (Src.gK (hs.own 0 _ rfl).1).2 (by simp[Value.oneCell']) (by show(k+1)*88≤_;omega) (by unfold maxLen;show k+1≤_;omega) ?_)
  clear hs
  rintro a9 c9 g8 hs ah;obtain⟨bT,bN⟩:=cC ah bT bN
  replace ie:=ie.trans ah;replace eK:=eK.mono ah
  refine Wp 1 rfl ?_
  refine bg rfl (aA T.ok 3 rfl hs rfl rfl rfl rfl rfl rfl rfl rfl rfl ?_);replace hs:=hs;rintro g1 hs ah;obtain⟨bT,bN⟩:=cC ah bT bN
  replace ie:=ie.trans ah;replace eK:=eK.mono ah
  have aU:St g _ [.row 65 7 (.slice a9 (k+1) c9) (k+1) (cells++[.int .i64 (1+aO y.y0 5),.slice ta (fP y).length tc,.int .i64 (1+aO y.y1 30),.int .i64 (1+aO y.y1 30+aO (y.y1.tdiv 30) 20),.slice na (gL y (eM x) k).length nc,.int .i64 (if aO y.y4 4=0 then aO (y.y4.tdiv 4) (k+1)else -1),.int .i64 (if aO y.y4 4=0 then 1+aO y.y5 3 else 0)]),.obj bf (.cells [.int .i64 2,.int .i64 5,.slice a9 (k+1) c9,.slice none 0 0].toArray 30 (0,0)),.obj br (.cells [.int .i64 0,.int .i64 0,.slice none 0 0,.slice none 0 0].toArray 30 (0,0))]:=hs.re [2,3,4] (by decide) rfl
  apply aD;apply bU;apply au;apply ar;refine Wp 3 rfl ?_;apply aD
  refine fun a ha=>⟨eM x-(k+1),by omega,k+1,_,_,_,rfl,aU,ie,by omega,rfl,?_,ha.keep ⟨rfl,rfl,rfl,rfl,rfl,kI rfl (by rw[wr (by omega) (by omega)];omega),trivial⟩⟩
  rw[dm]
  exact cO.app (α:=Step) (ys:=[oM y (eM x) k]) ⟨_,[],(List.append_nil _).symm,(show pB _ _ _ from⟨_,_,_,_,_,_,rfl,bT,bN⟩),rfl⟩ eK
 ·refine aS (b:=decide ((k:Int)<(eM x:Int))) (by simp;omega) rfl ?_
  obtain rfl:k=eM x:=by omega
  apply bE;apply bK;apply bK;apply dc;apply au;apply aB;refine aX rfl ?_;apply aG
  have aT:=xx.mono ie
  have OM:=eK;have Fx:=aT;have VK:=ie
  have aU:St g g3 [.row 141 3 (.slice none (gO (eM x) zs 0).length 0) (gO (eM x) zs 0).length (j7 (gO (eM x) zs 0)),.row 65 7 (.slice sa (eM x) sc) (eM x) cells,.obj bf (.cells [.int .i64 2,.int .i64 5,.slice sa (eM x) sc,.slice none (gO (eM x) zs 0).length 0].toArray 30 (0,0)),.obj br (.cells [.int .i64 0,.int .i64 0,.slice none 0 0,.slice none 0 0].toArray 30 (0,0))]:=hs.gI 141 3 none
  replace hs:=aU
  clear aU
  refine bS (fun m a' w=> ∃(k:Nat) (wa:Option Addr) (wc:Nat) (g4:G),w=g4.w∧St g g4 [.row 141 3 (.slice wa (gO (eM x) zs k).length wc) (gO (eM x) zs k).length (j7 (gO (eM x) zs k)),.row 65 7 (.slice sa (eM x) sc) (eM x) cells,.obj bf (.cells [.int .i64 2,.int .i64 5,.slice sa (eM x) sc,.slice wa (gO (eM x) zs k).length wc].toArray 30 (0,0)),.obj br (.cells [.int .i64 0,.int .i64 0,.slice none 0 0,.slice none 0 0].toArray 30 (0,0))]∧G.le g3 g4∧k≤min zs.length 4∧m=min zs.length 4-k∧
    Fr 193 [] [(1,.slice a2 zs.length c2),(4,.pointer (some ⟨br,0,none⟩)),(5,.int .i64 (eM x)),(6,.pointer (some ⟨bf,0,none⟩)),(12,.int .i64 k)] a') (min zs.length 4)
   (fun a' ha=>⟨0,none,0,g3,rfl,hs,G.le.refl _,Nat.zero_le _,rfl,ha.keep (by(repeat (first|exact trivial|refine⟨rfl,?_⟩)))⟩) ?_
  clear hs eK aH aT aq
  rintro m a' _ ⟨k,wa,wc,g4,rfl,hs,fy,hk,rfl,eI⟩
  have aT:=Fx.mono fy
  have RW:=uy (eM x) zs k (by omega)
  revert a'
  by_cases bh:k<min zs.length 4
  ·apply cQ;apply aB;refine cP 5 rfl ?_
   refine cM 136 (b':=true) (by simp;omega) rfl ?_
   refine ba rfl ?_
   refine aJ (b:=_) ?_ rfl ?_
   ·simp;omega
   have R6:k<zs.length:=by omega
   have dm:=rD (eM x) zs k R6
   have jo:=hz _ (List.getElem_mem R6)
   have ic:dA zs (k:Int)=some zs[k]:=by simp[dA,R6]
   generalize zs[k]=z at*
   generalize gO (eM x) zs k=wl at*
   have p0:=dq (c:=z.z0) (n:=eM x) (by omega)
   have p1:=dq (c:=z.z1) (n:=eM x) (by omega)
   have p2:=dq (c:=z.z2) (n:=150) (by omega)
   have KE:(eM x:Int)≠0:=by omega
   have Kg:vW (eM x) z=⟨aO z.z0 (eM x),aO z.z1 (eM x),10+aO z.z2 150⟩:=rfl
   generalize hw:vW (eM x) z=w0 at*
   apply aE;apply au;apply aB;apply aG;apply aB
   have oh:=hs
   apply ed (eJ (.f (R2 z)::(.f (jF (z.z0))::(gE (fe (.f (R2 z)::(.f (jF (z.z1))::(gE (fe (.f (R2 z)::(.f (jF (z.z2))::(gE (.f (B_ g4.dr.w.heap.size [.int .i64 0,.int .i64 0,.int .i64 0] 141)::[]))))))))))))) 23 [(21,163),(22,13)] (by kernel_rfl)
   ·refine Dx [[],[]] (by kernel_rfl) rfl ?_
    refine aw (ak (js:=[(0,142),(1,143)]) (by kernel_rfl) fun gd hf=>?_) ?_
    ·have eH:=(G.bJ _).trans hf.le
     refine ai rfl ?_;refine ai rfl ?_
     apply aj
     refine az rfl ?_
     refine aW T.ok rfl (aT.mono eH) (y:=z) ic rfl rfl rfl rfl rfl rfl ?_
     intro b p ys aL eK
     exact⟨_,rfl,aZ.refl _,b,p,rfl,eK▸aL⟩
    refine aw (ak (js:=[(2,144)]) (by kernel_rfl) fun gd hf=>?_) ?_
    ·skip
     refine aY fun v2 h2=>?_
     apply aj
     obtain⟨b,p,rfl,aL⟩:=h2
     refine az rfl ?_
     refine df T.ok (q:=0) rfl rfl rfl rfl rfl rfl (by decide) ?_
     exact⟨_,rfl,aZ.refl _,b,_,rfl,aL.sub 0 rfl⟩
    refine aw (ak (js:=[(3,145)]) (by kernel_rfl) fun gd hf=>?_) ?_
    ·skip
     refine aY fun v3 h3=>?_
     apply aj
     obtain⟨b,p,rfl,aL⟩:=h3
     refine az rfl ?_
     refine cp T.ok 0 rfl aL rfl rfl ?_
     refine⟨_,rfl,aZ.refl _,?_⟩
     exact rfl
    refine Dx [[]] (by kernel_rfl) rfl ?_
    refine aw (ak (js:=[(4,146),(5,147)]) (by kernel_rfl) fun gd hf=>?_) ?_
    ·skip
     refine ai rfl ?_;refine ai rfl ?_
     apply aj
     refine az rfl ?_
     refine ay oy aI rfl rfl rfl rfl rfl (iK z.z0 (eM x) _ jo.h0 KE) fun g' v h1 h2=>⟨g',rfl,h1,?_⟩
     exact h2
    refine Dx [[],[]] (by kernel_rfl) rfl ?_
    refine aw (ak (js:=[(7,149),(8,150)]) (by kernel_rfl) fun gd hf=>?_) ?_
    ·have eH:=(G.bJ _).trans hf.le
     refine ai rfl ?_;refine ai rfl ?_
     apply aj
     refine az rfl ?_
     refine aW T.ok rfl (aT.mono eH) (y:=z) ic rfl rfl rfl rfl rfl rfl ?_
     intro b p ys aL eK
     exact⟨_,rfl,aZ.refl _,b,p,rfl,eK▸aL⟩
    refine aw (ak (js:=[(9,151)]) (by kernel_rfl) fun gd hf=>?_) ?_
    ·skip
     refine aY fun v9 h9=>?_
     apply aj
     obtain⟨b,p,rfl,aL⟩:=h9
     refine az rfl ?_
     refine df T.ok (q:=1) rfl rfl rfl rfl rfl rfl (by decide) ?_
     exact⟨_,rfl,aZ.refl _,b,_,rfl,aL.sub 1 rfl⟩
    refine aw (ak (js:=[(10,152)]) (by kernel_rfl) fun gd hf=>?_) ?_
    ·skip
     refine aY fun v10 uH=>?_
     apply aj
     obtain⟨b,p,rfl,aL⟩:=uH
     refine az rfl ?_
     refine cp T.ok 0 rfl aL rfl rfl ?_
     refine⟨_,rfl,aZ.refl _,?_⟩
     exact rfl
    refine Dx [[]] (by kernel_rfl) rfl ?_
    refine aw (ak (js:=[(11,153),(12,154)]) (by kernel_rfl) fun gd hf=>?_) ?_
    ·skip
     refine ai rfl ?_;refine ai rfl ?_
     apply aj
     refine az rfl ?_
     refine ay oy aI rfl rfl rfl rfl rfl (iK z.z1 (eM x) _ jo.h1 KE) fun g' v h1 h2=>⟨g',rfl,h1,?_⟩
     exact h2
    refine Dx [[],[]] (by kernel_rfl) rfl ?_
    refine aw (ak (js:=[(14,156),(15,157)]) (by kernel_rfl) fun gd hf=>?_) ?_
    ·have eH:=(G.bJ _).trans hf.le
     refine ai rfl ?_;refine ai rfl ?_
     apply aj
     refine az rfl ?_
     refine aW T.ok rfl (aT.mono eH) (y:=z) ic rfl rfl rfl rfl rfl rfl ?_
     intro b p ys aL eK
     exact⟨_,rfl,aZ.refl _,b,p,rfl,eK▸aL⟩
    refine aw (ak (js:=[(16,158)]) (by kernel_rfl) fun gd hf=>?_) ?_
    ·skip
     refine aY fun S' Il=>?_
     apply aj
     obtain⟨b,p,rfl,aL⟩:=Il
     refine az rfl ?_
     refine df T.ok (q:=2) rfl rfl rfl rfl rfl rfl (by decide) ?_
     exact⟨_,rfl,aZ.refl _,b,_,rfl,aL.sub 2 rfl⟩
    refine aw (ak (js:=[(17,159)]) (by kernel_rfl) fun gd hf=>?_) ?_
    ·skip
     refine aY fun W7 O7=>?_
     apply aj
     obtain⟨b,p,rfl,aL⟩:=O7
     refine az rfl ?_
     refine cp T.ok 0 rfl aL rfl rfl ?_
     refine⟨_,rfl,aZ.refl _,?_⟩
     exact rfl
    refine aw (ak (js:=[(18,160)]) (by kernel_rfl) fun gd hf=>?_) ?_
    ·skip
     refine ai rfl ?_
     apply aj
     refine az rfl ?_
     refine ay oy aI rfl rfl rfl rfl rfl (iK (z.z2) (150) _ (jo.h2) (by decide)) fun g' v h1 h2=>⟨g',rfl,h1,?_⟩
     exact h2
    refine aw (ak (js:=[(19,161)]) (by kernel_rfl) fun gd hf=>?_) ?_
    ·skip
     refine ai rfl ?_
     apply aj
     refine az rfl ?_
     refine aM _ T.ok rfl ?_
     refine⟨_,rfl,aZ.refl _,?_⟩
     exact congrArg (Value.int .i64) (show _=10+aO z.z2 150 from wr (by omega) (by omega))
    refine aw (ak (js:=[(6,148),(13,155),(20,162)]) (by kernel_rfl) fun gd hf=>?_) ?_
    ·skip
     refine ai rfl ?_;refine ai rfl ?_;refine ai rfl ?_
     apply aj
     refine az rfl ?_
     refine aQ T.ok rfl (vs:=[(0,.int .i64 (aO z.z0 (eM x))),(1,.int .i64 (aO z.z1 (eM x))),(2,.int .i64 (10+aO z.z2 150))]) (cells:=[.int .i64 (aO z.z0 (eM x)),.int .i64 (aO z.z1 (eM x)),.int .i64 (10+aO z.z2 150)]) rfl rfl rfl rfl [(0,1),(1,1),(2,1)] rfl (by kernel_rfl) ?_
     exact⟨_,rfl,aZ.refl _,rfl⟩
    refine aw (ak (js:=[]) (by kernel_rfl) fun gd hf=>?_) ?_
    ·skip
     apply aj
     refine az rfl ?_
     refine aK T.ok rfl (St.start gd) rfl rfl ?_
     intro b g' iS hle
     have ho:=iS.own 0 _ rfl
     exact⟨g',rfl,iS.mS,b,rfl,Nat.le_trans hf.below.size ho.1,ho.2⟩
    exact fJ
   intro g1 aN;refine ai rfl ?_;refine aY fun v22 VL=>?_;apply aj
   replace hs:=hs.dr.call aN;have ah:=(G.bJ _).trans aN.le;replace fy:=G.le.trans fy ah
   obtain⟨bw,rfl,uS⟩:=VL
   replace hs:=oh.dr.gJ aN uS;clear oh
   skip
   refine bg rfl (aA T.ok 0 rfl hs rfl rfl rfl rfl rfl rfl rfl rfl rfl ?_);replace hs:=hs;rintro g1 hs ah;replace fy:=G.le.trans fy ah
   apply cf;refine nK [.o 3] hs rfl ?_;apply aB
   have ON:ux (eM x) wl z=if w0.src≠w0.dst∧follows wl w0=true then wl++[w0]else wl:=by unfold ux;rw[hw]
   rw[ON]at dm
   clear ON
   have gn:w0.src=aO z.z0 (eM x):=by rw[Kg]
   have R7:w0.dst=aO z.z1 (eM x):=by rw[Kg]
   have R8:w0.dF=10+aO z.z2 150:=by rw[Kg]
   rw[←gn,←R7,←R8]at hs
   replace hs:St g g1 [.obj bw (.cells [.int .i64 w0.src,.int .i64 w0.dst,.int .i64 w0.dF].toArray 141 (0,0)),.row 141 3 (.slice wa (wl).length wc) (wl).length (j7 (wl)),.row 65 7 (.slice sa (eM x) sc) (eM x) cells,.obj bf (.cells [.int .i64 2,.int .i64 5,.slice sa (eM x) sc,.slice wa (wl).length wc].toArray 30 (0,0)),.obj br (.cells [.int .i64 0,.int .i64 0,.slice none 0 0,.slice none 0 0].toArray 30 (0,0))]:=hs
   cases e1:(w0.src !=w0.dst)with
   |false=>
    have Pn: ¬(w0.src≠w0.dst):=by simpa using e1
    rw[if_neg fun h=>Pn h.1]at dm
    apply bO hs (fj (fj (eJ (fe [])))) 19 [(18,185)] (by kernel_rfl) rfl
    ·refine Dm [[],[0],[],[2]] [.o 0,.o 0] hs (by kernel_rfl) rfl ?_
     refine aw (ak (js:=[(1,168),(3,170)]) (by kernel_rfl) fun gd hf=>?_) ?_
     ·skip
      refine ai rfl ?_;refine ai rfl ?_
      apply aj
      refine az rfl ?_
      refine aM _ T.ok rfl ?_
      exact⟨_,rfl,aZ.refl _,congrArg Value.bool e1⟩
     exact Dy [[4],[5],[6,5],[7,5,5],[8],[9,8],[8],[11,8],[10,12,8],[13,8],[8],[14,15,8,8],[8,16,5],[5,17]] (by kernel_rfl) rfl
    clear hs;intro g1 hs ah;replace fy:=G.le.trans fy ah
    apply cf
    refine aS rfl rfl ?_
    apply aE;apply bU;apply au;apply ar;refine Wp 3 rfl ?_;apply aD
    refine fun a ha=>⟨min zs.length 4-(k+1),by omega,k+1,wa,wc,_,rfl,?_,fy,by omega,rfl,ha.keep ⟨rfl,rfl,rfl,rfl,kI rfl (by rw[wr (by omega) (by omega)];omega),trivial⟩⟩
    rw[dm];exact hs.drop 0
   |true=>
    have Pn:w0.src≠w0.dst:=by simpa using e1
    cases e2:((wl.length:Int)==0)with
    |true=>
     have MR:(wl.length:Int)=0:=by simpa using e2
     have C2:wl=[]:=List.eq_nil_of_length_eq_zero (by omega)
     rw[if_pos ⟨Pn,by rw[C2];rfl⟩]at dm
     apply bO hs (fj (fj (eJ (fe [])))) 19 [(18,185)] (by kernel_rfl) rfl
     ·refine Dm [[],[0],[],[2]] [.o 0,.o 0] hs (by kernel_rfl) rfl ?_
      refine aw (ak (js:=[(1,168),(3,170)]) (by kernel_rfl) fun gd hf=>?_) ?_
      ·skip
       refine ai rfl ?_;refine ai rfl ?_
       apply aj
       refine az rfl ?_
       refine aM _ T.ok rfl ?_
       exact⟨_,rfl,aZ.refl _,congrArg Value.bool e1⟩
      refine Dx [[4],[5]] (by kernel_rfl) rfl ?_
      refine aw (ak (js:=[(6,173),(5,172)]) (by kernel_rfl) fun gd hf=>?_) ?_
      ·skip
       refine ai rfl ?_;refine ai rfl ?_
       apply aj
       refine az rfl ?_
       refine aM _ T.ok rfl ?_
       exact⟨_,rfl,aZ.refl _,congrArg Value.bool e2⟩
      exact Dy [[7,5,5],[8],[9,8],[8],[11,8],[10,12,8],[13,8],[8],[14,15,8,8],[8,16,5],[5,17]] (by kernel_rfl) rfl
     clear hs;intro g1 hs ah;replace fy:=G.le.trans fy ah
     apply cf
     refine aJ rfl rfl ?_
     apply ar;refine Wm 3 [.o 3,.o 0] hs rfl ?_
     refine an rfl rfl (bj T.ok rfl hs (vs:=[(0,.agg (kO w0).toArray)]) (cells:=kO w0) rfl rfl rfl rfl rfl rfl (by decide) (by decide) (by kernel_rfl) rfl ?_)
     clear hs
     rintro b2 g9 hs ah;replace fy:=G.le.trans fy ah
     skip
     refine an rfl rfl (b_ T.ok 2 rfl hs rfl rfl rfl rfl rfl rfl rfl (by decide) rfl (Src.gK (hs.own 0 _ rfl).1).2 (by simp[kO,Value.oneCell']) (by show(wl.length+1)*24≤_;omega) (by unfold maxLen;show wl.length+1≤_;omega) ?_)
     clear hs
     rintro a9 c9 g8 hs ah;replace fy:=G.le.trans fy ah
     refine Wp 1 rfl ?_
     refine bg rfl (aA T.ok 4 rfl hs rfl rfl rfl rfl rfl rfl rfl rfl rfl ?_);replace hs:=hs;rintro g1 hs ah;replace fy:=G.le.trans fy ah
     apply aD;apply bU;apply au;apply ar;refine Wp 3 rfl ?_;apply aD
     refine fun a ha=>⟨min zs.length 4-(k+1),by omega,k+1,a9,c9,_,rfl,?_,fy,by omega,rfl,ha.keep ⟨rfl,rfl,rfl,rfl,kI rfl (by rw[wr (by omega) (by omega)];omega),trivial⟩⟩
     have aU:=hs.re [2,3,4,5] (by decide) (L':=[.row 141 3 (.slice a9 (wl++[w0]).length c9) (wl++[w0]).length (j7 (wl++[w0])),.row 65 7 (.slice sa (eM x) sc) (eM x) cells,.obj bf (.cells [.int .i64 2,.int .i64 5,.slice sa (eM x) sc,.slice a9 (wl++[w0]).length c9].toArray 30 (0,0)),.obj br (.cells [.int .i64 0,.int .i64 0,.slice none 0 0,.slice none 0 0].toArray 30 (0,0))]) (by rw[qn,List.length_append];rfl)
     rw[dm];exact aU
    |false=>
     have C2:wl.length≠0:=by
      intro h;rw[h]at e2;cases e2
     obtain⟨lw,Tq⟩: ∃v,wl.getLast? =some v:=by
      cases hg:wl.getLast? with
      |none=>rw[List.getLast?_eq_none_iff]at hg;rw[hg]at C2;exact absurd rfl C2
      |some v=>exact⟨v,rfl⟩
     have xR:follows wl w0=kW lw w0:=by unfold follows;rw[Tq]
     have Iy:=CU Tq
     obtain⟨wb,wp,rfl⟩:=Fu (hs.own 1 _ rfl).1 C2
     have C1:((wl.length:Int)-1).toNat=wl.length-1:=by omega
     rw[←C1]at Iy
     rw[xR]at dm
     cases e3:kW lw w0 with
     |true=>
      rw[if_pos ⟨Pn,e3⟩]at dm
      apply bO hs (fj (fj (eJ (fe [])))) 19 [(18,185)] (by kernel_rfl) rfl
      ·refine Dm [[],[0],[],[2]] [.o 0,.o 0] hs (by kernel_rfl) rfl ?_
       refine aw (ak (js:=[(1,168),(3,170)]) (by kernel_rfl) fun gd hf=>?_) ?_
       ·skip
        refine ai rfl ?_;refine ai rfl ?_
        apply aj
        refine az rfl ?_
        refine aM _ T.ok rfl ?_
        exact⟨_,rfl,aZ.refl _,congrArg Value.bool e1⟩
       refine Dx [[4],[5]] (by kernel_rfl) rfl ?_
       refine aw (ak (js:=[(6,173),(5,172)]) (by kernel_rfl) fun gd hf=>?_) ?_
       ·skip
        refine ai rfl ?_;refine ai rfl ?_
        apply aj
        refine az rfl ?_
        refine aM _ T.ok rfl ?_
        exact⟨_,rfl,aZ.refl _,congrArg Value.bool e2⟩
       refine Dm [[7,5,5],[8],[9,8],[8]] [.o 3] hs (by kernel_rfl) rfl ?_
       refine aw (ak (js:=[(11,178),(8,175)]) (by kernel_rfl) fun gd hf=>?_) ?_
       ·skip
        refine ai rfl ?_;refine ai rfl ?_
        apply aj
        refine az rfl ?_
        refine aM _ T.ok rfl ?_
        refine⟨_,rfl,aZ.refl _,?_⟩
        exact congrArg (Value.int .i64) (show _=(wl.length:Int)-1 from wr (by omega) (by omega))
       refine aw (ak (js:=[(10,177),(12,179),(8,175)]) (by kernel_rfl) fun gd hf=>?_) ?_
       ·have ib:=hs.dr.call hf
        refine ai rfl ?_;refine ai rfl ?_;refine ai rfl ?_
        apply aj
        refine az rfl ?_
        refine iy T.ok (n:=(wl.length:Int)-1) rfl (ib.own 1 _ rfl).1 (by omega) (by omega) rfl rfl rfl rfl rfl rfl ?_
        rintro b p hh;obtain⟨rfl,rfl⟩:wb=b∧wp=p:=by simpa using hh
        exact⟨_,rfl,aZ.refl _,rfl⟩
       refine aw (ak (js:=[(13,180),(8,175)]) (by kernel_rfl) fun gd hf=>?_) ?_
       ·have ib:=hs.dr.call hf
        refine ai rfl ?_;refine ai rfl ?_
        apply aj
        refine az rfl ?_
        refine iP T.ok (((wl.length:Int)-1).toNat*3) rfl (ib.own 1 _ rfl).1 rfl (v:=.agg (kO lw).toArray) Iy ?_
        exact⟨_,rfl,aZ.refl _,rfl⟩
       refine Dm [[8]] [.o 0] hs (by kernel_rfl) rfl ?_
       refine aw (ak (js:=[(14,181),(15,182),(8,175),(8,175)]) (by kernel_rfl) fun gd hf=>?_) ?_
       ·skip
        refine ai rfl ?_;refine ai rfl ?_;refine ai rfl ?_;refine ai rfl ?_
        apply aj
        refine az rfl ?_
        refine ay F3 aI rfl rfl rfl rfl rfl (qk lw w0 _) fun g' v h1 h2=>⟨g',rfl,h1,?_⟩
        rw[h2];exact congrArg Value.bool e3
       exact Dy [[8,16,5],[5,17]] (by kernel_rfl) rfl
      clear hs;intro g1 hs ah;replace fy:=G.le.trans fy ah
      apply cf
      refine aJ rfl rfl ?_
      apply ar;refine Wm 3 [.o 3,.o 0] hs rfl ?_
      refine an rfl rfl (bj T.ok rfl hs (vs:=[(0,.agg (kO w0).toArray)]) (cells:=kO w0) rfl rfl rfl rfl rfl rfl (by decide) (by decide) (by kernel_rfl) rfl ?_)
      clear hs
      rintro b2 g9 hs ah;replace fy:=G.le.trans fy ah
      skip
      refine an rfl rfl (b_ T.ok 2 rfl hs rfl rfl rfl rfl rfl rfl rfl (by decide) rfl (Src.gK (hs.own 0 _ rfl).1).2 (by simp[kO,Value.oneCell']) (by show(wl.length+1)*24≤_;omega) (by unfold maxLen;show wl.length+1≤_;omega) ?_)
      clear hs
      rintro a9 c9 g8 hs ah;replace fy:=G.le.trans fy ah
      refine Wp 1 rfl ?_
      refine bg rfl (aA T.ok 4 rfl hs rfl rfl rfl rfl rfl rfl rfl rfl rfl ?_);replace hs:=hs;rintro g1 hs ah;replace fy:=G.le.trans fy ah
      apply aD;apply bU;apply au;apply ar;refine Wp 3 rfl ?_;apply aD
      refine fun a ha=>⟨min zs.length 4-(k+1),by omega,k+1,a9,c9,_,rfl,?_,fy,by omega,rfl,ha.keep ⟨rfl,rfl,rfl,rfl,kI rfl (by rw[wr (by omega) (by omega)];omega),trivial⟩⟩
      have aU:=hs.re [2,3,4,5] (by decide) (L':=[.row 141 3 (.slice a9 (wl++[w0]).length c9) (wl++[w0]).length (j7 (wl++[w0])),.row 65 7 (.slice sa (eM x) sc) (eM x) cells,.obj bf (.cells [.int .i64 2,.int .i64 5,.slice sa (eM x) sc,.slice a9 (wl++[w0]).length c9].toArray 30 (0,0)),.obj br (.cells [.int .i64 0,.int .i64 0,.slice none 0 0,.slice none 0 0].toArray 30 (0,0))]) (by rw[qn,List.length_append];rfl)
      rw[dm];exact aU
     |false=>
      rw[if_neg fun h=>by rw[e3]at h;cases h.2]at dm
      apply bO hs (fj (fj (eJ (fe [])))) 19 [(18,185)] (by kernel_rfl) rfl
      ·refine Dm [[],[0],[],[2]] [.o 0,.o 0] hs (by kernel_rfl) rfl ?_
       refine aw (ak (js:=[(1,168),(3,170)]) (by kernel_rfl) fun gd hf=>?_) ?_
       ·skip
        refine ai rfl ?_;refine ai rfl ?_
        apply aj
        refine az rfl ?_
        refine aM _ T.ok rfl ?_
        exact⟨_,rfl,aZ.refl _,congrArg Value.bool e1⟩
       refine Dx [[4],[5]] (by kernel_rfl) rfl ?_
       refine aw (ak (js:=[(6,173),(5,172)]) (by kernel_rfl) fun gd hf=>?_) ?_
       ·skip
        refine ai rfl ?_;refine ai rfl ?_
        apply aj
        refine az rfl ?_
        refine aM _ T.ok rfl ?_
        exact⟨_,rfl,aZ.refl _,congrArg Value.bool e2⟩
       refine Dm [[7,5,5],[8],[9,8],[8]] [.o 3] hs (by kernel_rfl) rfl ?_
       refine aw (ak (js:=[(11,178),(8,175)]) (by kernel_rfl) fun gd hf=>?_) ?_
       ·skip
        refine ai rfl ?_;refine ai rfl ?_
        apply aj
        refine az rfl ?_
        refine aM _ T.ok rfl ?_
        refine⟨_,rfl,aZ.refl _,?_⟩
        exact congrArg (Value.int .i64) (show _=(wl.length:Int)-1 from wr (by omega) (by omega))
       refine aw (ak (js:=[(10,177),(12,179),(8,175)]) (by kernel_rfl) fun gd hf=>?_) ?_
       ·have ib:=hs.dr.call hf
        refine ai rfl ?_;refine ai rfl ?_;refine ai rfl ?_
        apply aj
        refine az rfl ?_
        refine iy T.ok (n:=(wl.length:Int)-1) rfl (ib.own 1 _ rfl).1 (by omega) (by omega) rfl rfl rfl rfl rfl rfl ?_
        rintro b p hh;obtain⟨rfl,rfl⟩:wb=b∧wp=p:=by simpa using hh
        exact⟨_,rfl,aZ.refl _,rfl⟩
       refine aw (ak (js:=[(13,180),(8,175)]) (by kernel_rfl) fun gd hf=>?_) ?_
       ·have ib:=hs.dr.call hf
        refine ai rfl ?_;refine ai rfl ?_
        apply aj
        refine az rfl ?_
        refine iP T.ok (((wl.length:Int)-1).toNat*3) rfl (ib.own 1 _ rfl).1 rfl (v:=.agg (kO lw).toArray) Iy ?_
        exact⟨_,rfl,aZ.refl _,rfl⟩
       refine Dm [[8]] [.o 0] hs (by kernel_rfl) rfl ?_
       refine aw (ak (js:=[(14,181),(15,182),(8,175),(8,175)]) (by kernel_rfl) fun gd hf=>?_) ?_
       ·skip
        refine ai rfl ?_;refine ai rfl ?_;refine ai rfl ?_;refine ai rfl ?_
        apply aj
        refine az rfl ?_
        refine ay F3 aI rfl rfl rfl rfl rfl (qk lw w0 _) fun g' v h1 h2=>⟨g',rfl,h1,?_⟩
        rw[h2];exact congrArg Value.bool e3
       exact Dy [[8,16,5],[5,17]] (by kernel_rfl) rfl
      clear hs;intro g1 hs ah;replace fy:=G.le.trans fy ah
      apply cf
      refine aS rfl rfl ?_
      apply aE;apply bU;apply au;apply ar;refine Wp 3 rfl ?_;apply aD
      refine fun a ha=>⟨min zs.length 4-(k+1),by omega,k+1,some ⟨wb,wp,none⟩,wc,_,rfl,?_,fy,by omega,rfl,ha.keep ⟨rfl,rfl,rfl,rfl,kI rfl (by rw[wr (by omega) (by omega)];omega),trivial⟩⟩
      rw[dm];exact hs.drop 0
  ·obtain rfl:k=min zs.length 4:=by omega
   apply cQ;apply aB;refine cP 5 rfl ?_
   by_cases W8:min zs.length 4<zs.length
   ·refine cM 136 (b':=true) (by simp;omega) rfl ?_
    refine ba rfl ?_
    refine aS (b:=_) ?_ rfl ?_
    ·simp;omega
    obtain⟨gx,R9,mK,R_,dj⟩:=hs.cL (α:=cj) (xs:=gO (eM x) zs (min zs.length 4)) (i:=0) rfl (cO.win _ _)
    obtain⟨gy,OO,aU,Po,pk⟩:=mK.cL (α:=Step) (xs:=j6 x (eM x)) (i:=0) rfl (OM.mono (fy.trans R_))
    replace dj:=dj.mono Po
    rw[←R9,←OO]
    replace hs:=aU
    clear mK aU
    apply bE;apply bK;apply bK;apply dc;apply au;refine dx 1 [.o 0] hs rfl ?_
    refine bg rfl (aA T.ok 1 rfl hs rfl rfl rfl rfl rfl rfl rfl rfl rfl ?_);replace hs:=hs;rintro g1 hs ah;obtain⟨dj,pk⟩:=cC ah dj pk
    apply cf
    refine aF ?_
    skip
    exact kJ T.ok 1 rfl hs rfl rfl rfl (hs.ret ⟨_,_,_,_,_,_,rfl,pk,dj⟩)
   ·refine cM 136 (b':=false) (by simp;omega) rfl ?_
    refine ba rfl ?_
    refine aS rfl rfl ?_
    obtain⟨gx,R9,mK,R_,dj⟩:=hs.cL (α:=cj) (xs:=gO (eM x) zs (min zs.length 4)) (i:=0) rfl (cO.win _ _)
    obtain⟨gy,OO,aU,Po,pk⟩:=mK.cL (α:=Step) (xs:=j6 x (eM x)) (i:=0) rfl (OM.mono (fy.trans R_))
    replace dj:=dj.mono Po
    rw[←R9,←OO]
    replace hs:=aU
    clear mK aU
    apply bE;apply bK;apply bK;apply dc;apply au;refine dx 1 [.o 0] hs rfl ?_
    refine bg rfl (aA T.ok 1 rfl hs rfl rfl rfl rfl rfl rfl rfl rfl rfl ?_);replace hs:=hs;rintro g1 hs ah;obtain⟨dj,pk⟩:=cC ah dj pk
    apply cf
    refine aF ?_
    skip
    exact kJ T.ok 1 rfl hs rfl rfl rfl (hs.ret ⟨_,_,_,_,_,_,rfl,pk,dj⟩)
end Go.Proofs.YtebobfdheanknaaGreatDoor

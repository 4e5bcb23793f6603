/- Parts of the proof, from: The reference's tests: within, moves, Ascending, step, window. -/
import Derived.Test.YtebobfdheanknaaGreatDoorYm
namespace Go.Proofs.YtebobfdheanknaaGreatDoor
open Go Go.K
set_option maxRecDepth 10000
attribute [local irreducible] W WL cT bu bX bA bB bD cW cG
set_option maxHeartbeats 4000000
theorem fV(n lo hi:Int)(g:G):CallsIn Wd 0 Tryz.prog 163 #[.int .i64 n,.int .i64 lo,.int .i64 hi] g.w (cR g fun _ v=>v= .bool (within n lo hi)):=by
 have hs:=St.start g
 refine enter Tryz.func163 rfl Tryz.ntmps163 rfl ?_
 refine aX rfl ?_;refine cP 4 rfl ?_
 refine cw (want:=true) (x:=decide (n≤hi)) 3 aI rfl rfl rfl rfl (.inl ⟨rfl,rfl,rfl⟩) rfl rfl rfl rfl (fun hb Q' eE=>?_) (fun g' hf=>?_)
 ·refine Wp 3 rfl ?_;apply aD
  exact fun a ha=>eE _ a (aZ.refl _) (ha.keep (by(repeat (first|exact trivial|refine⟨rfl,?_⟩))))
 replace hs:=hs.call hf
 refine ba rfl ?_
 exact aF (aV rfl rfl (hs.ret rfl))
theorem Fe(a b:Int)(g:G):CallsIn Wd 0 Tryz.prog 162 #[.int .i64 a,.int .i64 b] g.w (cR g fun _ v=>v= .bool (eh ⟨a,b,[],[]⟩)):=by
 have hs:=St.start g
 refine enter Tryz.func162 rfl Tryz.ntmps162 rfl ?_
 refine aX rfl ?_;refine cP 3 rfl ?_
 refine cw (want:=true) (x:=decide (a≤b)) 3 aI rfl rfl rfl rfl (.inl ⟨rfl,rfl,rfl⟩) rfl rfl rfl rfl (fun hb Q' eE=>?_) (fun g' hf=>?_)
 ·refine Wp 3 rfl ?_;apply aD
  exact fun a ha=>eE _ a (aZ.refl _) (ha.keep (by(repeat (first|exact trivial|refine⟨rfl,?_⟩))))
 replace hs:=hs.call hf
 refine Wp 1 rfl ?_
 refine cw (want:=true) (x:=decide (b≤10000)) 2 aI rfl rfl rfl rfl (.inl ⟨rfl,rfl,rfl⟩) rfl rfl rfl rfl (fun hb Q' eE=>?_) (fun g' hf=>?_)
 ·refine Wp 2 rfl ?_;apply aD
  exact fun a ha=>eE _ a (aZ.refl _) (ha.keep (by(repeat (first|exact trivial|refine⟨rfl,?_⟩))))
 replace hs:=hs.call hf
 refine ba rfl ?_
 exact aF (aV rfl rfl (hs.ret rfl))
theorem qj(v:Value)(l:List Int)(lo hi:Int)(g:G)(hl:Rs g v l):
  CallsIn Wd 0 Tryz.prog 256 #[v,.int .i64 lo,.int .i64 hi] g.w (cR g fun _ r=>r= .bool (ascending l lo hi)):=by
 obtain⟨a,c,rfl⟩:=hl.isSlice
 have hlen:=hl.dU
 unfold maxLen at hlen
 have hs:=St.start g
 refine enter Tryz.func256 rfl Tryz.ntmps256 rfl ?_
 refine aX rfl ?_;apply aB;refine aX rfl ?_;apply aG
 refine bS (fun m a' w=> ∃(k:Nat) (g':G),w=g'.w∧St g g' []∧G.le g g'∧k≤l.length∧m=l.length-k∧((if k=0 then ascending l lo hi else kU lo hi (l.getD (k-1) 0) (l.drop k))=ascending l lo hi)∧
  Fr 38 [] [(0,.slice a l.length c),(1,.int .i64 lo),(2,.int .i64 hi),(7,.int .i64 k)] a') l.length (fun a' ha=>⟨0,g,rfl,hs,G.le.refl g,Nat.zero_le _,rfl,by simp,ha.keep (by(repeat (first|exact trivial|refine⟨rfl,?_⟩)))⟩) ?_
 clear hs
 rintro m a' _ ⟨k,g',rfl,hs,aq,hk,rfl,dy,eI⟩
 have aH:=hl.mono aq
 revert a'
 apply cQ;apply aB;refine aX rfl ?_
 by_cases bh:k<l.length
 ·refine aJ (b:=decide ((k:Int)<(l.length:Int))) (by simp;omega) rfl ?_
  rw[vX l lo hi k bh]at dy
  have ic:dA l (k:Int)=some l[k]:=by simp[dA,bh]
  have jn:l.getD (k+1-1) 0=l[k]:=by simp[List.getD_eq_getElem?_getD,bh]
  have FX: ∀(h:0<k),dA l ((k-1:Nat):Int)=some (l.getD (k-1) 0):=by
   intro h
   have h1:k-1<l.length:=by omega
   rw[cU (n:=((k-1:Nat):Int)) rfl h1,List.getD_eq_getElem?_getD,List.getElem?_eq_getElem h1];rfl
  generalize l.getD (k-1) 0=y at*
  generalize l[k]=x at*
  cases e1:within x lo hi with
  |false=>
   rw[e1,Bool.false_and,Bool.false_and]at dy
   apply aE;apply au;apply aB;apply aG;apply aB
   apply bO hs (eJ (.f (jF (x))::(fj (fj (gE (fe [])))))) 24 [(23,37)] (by kernel_rfl) rfl
   ·refine Dx [[],[]] (by kernel_rfl) rfl ?_
    refine aw (ak (js:=[(0,14),(1,15)]) (by kernel_rfl) fun gd hf=>?_) ?_
    ·have eH:=(G.bJ _).trans hf.le
     refine ai rfl ?_;refine ai rfl ?_
     apply aj
     refine az rfl ?_
     refine aW T.ok rfl (aH.mono eH) (y:=x) ic rfl rfl rfl rfl rfl rfl ?_
     rintro b p ys aL rfl
     exact⟨_,rfl,aZ.refl _,b,p,rfl,aL⟩
    refine aw (ak (js:=[(2,16)]) (by kernel_rfl) fun gd hf=>?_) ?_
    ·skip
     refine aY fun v2 h2=>?_
     apply aj
     obtain⟨b,p,rfl,aL⟩:=h2
     refine az rfl ?_
     refine cp T.ok 0 rfl aL rfl rfl ?_
     refine⟨_,rfl,aZ.refl _,?_⟩
     exact rfl
    refine Dx [[],[]] (by kernel_rfl) rfl ?_
    refine aw (ak (js:=[(3,17),(4,18),(5,19)]) (by kernel_rfl) fun gd hf=>?_) ?_
    ·skip
     refine ai rfl ?_;refine ai rfl ?_;refine ai rfl ?_
     apply aj
     refine az rfl ?_
     refine ay mQ aI rfl rfl rfl rfl rfl (fV x lo hi _) fun g' v h1 h2=>⟨g',rfl,h1,?_⟩
     rw[h2];exact congrArg Value.bool e1
    exact Dy [[6],[7],[8],[9,8],[10,8,8],[11],[11],[12,13,11],[14,11],[11],[11],[17,11],[16,18,11],[19,11],[15,20,11],[11,21,8],[8,22]] (by kernel_rfl) rfl
   clear hs;intro g1 hs ah;obtain⟨aq,aH⟩:=cC ah aq aH
   apply cf
   refine aJ rfl rfl ?_
   refine aX rfl ?_
   refine aF (aV rfl rfl (hs.ret ?_))
   rw[←dy]
  |true=>
   rw[e1,Bool.true_and]at dy
   cases e2:decide (0<(k:Int))with
   |false=>
    have e3:decide (k=0)=true:=by simp at e2⊢;omega
    rw[e3,Bool.true_or,Bool.true_and]at dy
    apply aE;apply au;apply aB;apply aG;apply aB
    apply bO hs (eJ (.f (jF (x))::(fj (fj (gE (fe [])))))) 24 [(23,37)] (by kernel_rfl) rfl
    ·refine Dx [[],[]] (by kernel_rfl) rfl ?_
     refine aw (ak (js:=[(0,14),(1,15)]) (by kernel_rfl) fun gd hf=>?_) ?_
     ·have eH:=(G.bJ _).trans hf.le
      refine ai rfl ?_;refine ai rfl ?_
      apply aj
      refine az rfl ?_
      refine aW T.ok rfl (aH.mono eH) (y:=x) ic rfl rfl rfl rfl rfl rfl ?_
      rintro b p ys aL rfl
      exact⟨_,rfl,aZ.refl _,b,p,rfl,aL⟩
     refine aw (ak (js:=[(2,16)]) (by kernel_rfl) fun gd hf=>?_) ?_
     ·skip
      refine aY fun v2 h2=>?_
      apply aj
      obtain⟨b,p,rfl,aL⟩:=h2
      refine az rfl ?_
      refine cp T.ok 0 rfl aL rfl rfl ?_
      refine⟨_,rfl,aZ.refl _,?_⟩
      exact rfl
     refine Dx [[],[]] (by kernel_rfl) rfl ?_
     refine aw (ak (js:=[(3,17),(4,18),(5,19)]) (by kernel_rfl) fun gd hf=>?_) ?_
     ·skip
      refine ai rfl ?_;refine ai rfl ?_;refine ai rfl ?_
      apply aj
      refine az rfl ?_
      refine ay mQ aI rfl rfl rfl rfl rfl (fV x lo hi _) fun g' v h1 h2=>⟨g',rfl,h1,?_⟩
      rw[h2];exact congrArg Value.bool e1
     refine Dx [[6],[7],[8]] (by kernel_rfl) rfl ?_
     refine aw (ak (js:=[(9,23),(8,22)]) (by kernel_rfl) fun gd hf=>?_) ?_
     ·skip
      refine ai rfl ?_;refine ai rfl ?_
      apply aj
      refine az rfl ?_
      refine aM _ T.ok rfl ?_
      exact⟨_,rfl,aZ.refl _,congrArg Value.bool e2⟩
     exact Dy [[10,8,8],[11],[11],[12,13,11],[14,11],[11],[11],[17,11],[16,18,11],[19,11],[15,20,11],[11,21,8],[8,22]] (by kernel_rfl) rfl
    clear hs;intro g1 hs ah;obtain⟨aq,aH⟩:=cC ah aq aH
    apply cf
    refine aS rfl rfl ?_
    apply aE;apply bU;apply au;apply ar;refine Wp 3 rfl ?_;apply aD
    refine fun a ha=>⟨l.length-(k+1),by omega,k+1,_,rfl,hs,aq,by omega,rfl,?_,ha.keep ⟨rfl,rfl,rfl,kI rfl (by rw[wr (by omega) (by omega)];omega),trivial⟩⟩
    rw[←dy,if_neg (by omega),jn]
   |true=>
    have zl:0<k:=by simpa using e2
    have e3:decide (k=0)=false:=by simp;omega
    rw[e3,Bool.false_or]at dy
    have FX:=FX zl
    apply aE;apply au;apply aB;apply aG;apply aB
    apply bO hs (eJ (.f (jF (x))::(fj (eJ (fe (.f (jF (x))::(gE (.f (jF (y))::(gE []))))))))) 24 [(23,37)] (by kernel_rfl) rfl
    ·refine Dx [[],[]] (by kernel_rfl) rfl ?_
     refine aw (ak (js:=[(0,14),(1,15)]) (by kernel_rfl) fun gd hf=>?_) ?_
     ·have eH:=(G.bJ _).trans hf.le
      refine ai rfl ?_;refine ai rfl ?_
      apply aj
      refine az rfl ?_
      refine aW T.ok rfl (aH.mono eH) (y:=x) ic rfl rfl rfl rfl rfl rfl ?_
      rintro b p ys aL rfl
      exact⟨_,rfl,aZ.refl _,b,p,rfl,aL⟩
     refine aw (ak (js:=[(2,16)]) (by kernel_rfl) fun gd hf=>?_) ?_
     ·skip
      refine aY fun v2 h2=>?_
      apply aj
      obtain⟨b,p,rfl,aL⟩:=h2
      refine az rfl ?_
      refine cp T.ok 0 rfl aL rfl rfl ?_
      refine⟨_,rfl,aZ.refl _,?_⟩
      exact rfl
     refine Dx [[],[]] (by kernel_rfl) rfl ?_
     refine aw (ak (js:=[(3,17),(4,18),(5,19)]) (by kernel_rfl) fun gd hf=>?_) ?_
     ·skip
      refine ai rfl ?_;refine ai rfl ?_;refine ai rfl ?_
      apply aj
      refine az rfl ?_
      refine ay mQ aI rfl rfl rfl rfl rfl (fV x lo hi _) fun g' v h1 h2=>⟨g',rfl,h1,?_⟩
      rw[h2];exact congrArg Value.bool e1
     refine Dx [[6],[7],[8]] (by kernel_rfl) rfl ?_
     refine aw (ak (js:=[(9,23),(8,22)]) (by kernel_rfl) fun gd hf=>?_) ?_
     ·skip
      refine ai rfl ?_;refine ai rfl ?_
      apply aj
      refine az rfl ?_
      refine aM _ T.ok rfl ?_
      exact⟨_,rfl,aZ.refl _,congrArg Value.bool e2⟩
     refine Dx [[10,8,8],[11],[11]] (by kernel_rfl) rfl ?_
     refine aw (ak (js:=[(12,26),(13,27),(11,25)]) (by kernel_rfl) fun gd hf=>?_) ?_
     ·have eH:=(G.bJ _).trans hf.le
      refine ai rfl ?_;refine ai rfl ?_;refine ai rfl ?_
      apply aj
      refine az rfl ?_
      refine aW T.ok rfl (aH.mono eH) (y:=x) ic rfl rfl rfl rfl rfl rfl ?_
      rintro b p ys aL rfl
      exact⟨_,rfl,aZ.refl _,b,p,rfl,aL⟩
     refine aw (ak (js:=[(14,28),(11,25)]) (by kernel_rfl) fun gd hf=>?_) ?_
     ·skip
      refine aY fun Ts Ko=>?_;refine ai rfl ?_
      apply aj
      obtain⟨b,p,rfl,aL⟩:=Ko
      refine az rfl ?_
      refine cp T.ok 0 rfl aL rfl rfl ?_
      refine⟨_,rfl,aZ.refl _,?_⟩
      exact rfl
     refine Dx [[11],[11]] (by kernel_rfl) rfl ?_
     refine aw (ak (js:=[(17,31),(11,25)]) (by kernel_rfl) fun gd hf=>?_) ?_
     ·skip
      refine ai rfl ?_;refine ai rfl ?_
      apply aj
      refine az rfl ?_
      refine aM _ T.ok rfl ?_
      refine⟨_,rfl,aZ.refl _,?_⟩
      exact congrArg (Value.int .i64) (show _=((k-1:Nat):Int)from by rw[wr (by omega) (by omega)];omega)
     refine aw (ak (js:=[(16,30),(18,32),(11,25)]) (by kernel_rfl) fun gd hf=>?_) ?_
     ·have eH:=(G.bJ _).trans hf.le
      refine ai rfl ?_;refine ai rfl ?_;refine ai rfl ?_
      apply aj
      refine az rfl ?_
      refine aW T.ok rfl (aH.mono eH) (y:=y) FX rfl rfl rfl rfl rfl rfl ?_
      rintro b p ys aL rfl
      exact⟨_,rfl,aZ.refl _,b,p,rfl,aL⟩
     refine aw (ak (js:=[(19,33),(11,25)]) (by kernel_rfl) fun gd hf=>?_) ?_
     ·skip
      refine aY fun W1 P8=>?_;refine ai rfl ?_
      apply aj
      obtain⟨b,p,rfl,aL⟩:=P8
      refine az rfl ?_
      refine cp T.ok 0 rfl aL rfl rfl ?_
      refine⟨_,rfl,aZ.refl _,?_⟩
      exact rfl
     exact Dy [[15,20,11],[11,21,8],[8,22]] (by kernel_rfl) rfl
    clear hs;intro g1 hs ah;replace aq:=G.le.trans aq ah
    by_cases Kl:x≤y
    ·have e4:decide (y<x)=false:=by simp;omega
     rw[e4,Bool.false_and]at dy
     apply cf
     refine aJ (by simp[Kl]) rfl ?_
     refine aX rfl ?_
     refine aF (aV rfl rfl (hs.ret ?_))
     rw[←dy]
    ·have e4:decide (y<x)=true:=by simp;omega
     rw[e4,Bool.true_and]at dy
     apply cf
     refine aS (b:=_) ?_ rfl ?_
     ·simp;omega
     apply aE;apply bU;apply au;apply ar;refine Wp 3 rfl ?_;apply aD
     refine fun a ha=>⟨l.length-(k+1),by omega,k+1,_,rfl,hs,aq,by omega,rfl,?_,ha.keep ⟨rfl,rfl,rfl,kI rfl (by rw[wr (by omega) (by omega)];omega),trivial⟩⟩
     rw[←dy,if_neg (by omega),jn]
 ·refine aS (b:=decide ((k:Int)<(l.length:Int))) (by simp;omega) rfl ?_
  apply bE;apply bK;apply bK;apply dc;apply au;refine aX rfl ?_
  obtain rfl:k=l.length:=by omega
  refine aF (aV rfl rfl (hs.ret ?_))
  rw[←dy]
  by_cases h0:l.length=0
  ·rw[if_pos h0,List.eq_nil_of_length_eq_zero h0];rfl
  ·rw[if_neg h0];simp[kU]
theorem Hk(v:Value)(s:Step)(n:Int)(g:G)(hv:ja g v s)(h1:0≤n)(h2:n≤9223372036854775807):
  CallsIn Wd 0 Tryz.prog 164 #[v,.int .i64 n] g.w (cR g fun _ r=>r= .bool (cg s n)):=by
 obtain⟨cs,rfl,a1,n1,c1,a2,n2,c2,rfl,se,xF⟩:=hv
 obtain⟨_,_,e⟩:=se.isSlice;obtain⟨rfl,rfl,rfl⟩:=Value.slice.inj e;clear e
 obtain⟨_,_,e⟩:=xF.isSlice;obtain⟨rfl,rfl,rfl⟩:=Value.slice.inj e;clear e
 have hs:=St.start g
 have aq:=G.le.refl g
 have hn:IntKind.i64.wrap (n-1)=n-1:=wr (by omega) (by omega)
 refine enter Tryz.func164 rfl Tryz.ntmps164 rfl ?_
 apply c_
 refine an rfl rfl (aR rfl hs rfl rfl ?_);clear hs;rintro b1 g1 hs ah;replace aq:=G.le.trans aq ah
 refine ba rfl ?_;refine dx 2 [.o 0] hs rfl ?_
 refine an rfl rfl (ay HS aI rfl rfl rfl rfl rfl (qj _ s.dB 0 59 _ (se.mono aq)) ?_);rintro g1 _ aN rfl;replace hs:=hs.call aN;have ah:=aN.le;replace aq:=G.le.trans aq ah
 refine ba rfl ?_;refine dx 4 [.o 0] hs rfl ?_
 rw[hn]
 refine an rfl rfl (ay HS aI rfl rfl rfl rfl rfl (qj _ s.next 0 (n-1) _ (xF.mono aq)) ?_);rintro g1 _ aN rfl;replace hs:=hs.call aN;have ah:=aN.le
 refine ba rfl ?_;refine dx 4 [.o 0] hs rfl ?_
 refine cw (want:=true) (x:=s.dF==0) 3 aI rfl rfl rfl rfl (.inl ⟨rfl,rfl,rfl⟩) rfl rfl rfl rfl (fun hb Q' eE=>?_) (fun g' hf=>?_)
 ·refine Wm 3 [.o 0] hs rfl ?_;apply aD
  exact fun a ha=>eE _ a (aZ.refl _) (ha.keep (by(repeat (first|exact trivial|refine⟨rfl,?_⟩))))
 replace hs:=hs.call hf;have ah:=hf.le
 refine Wp 1 rfl ?_
 refine cw (want:=false) (x:=within s.back 0 (n-1)&&within s.dF 1 9) 10 aI rfl rfl rfl rfl (.inr ⟨rfl,rfl,rfl⟩) rfl rfl rfl rfl (fun hb Q' eE=>?_) (fun g' hf=>?_)
 ·refine Wm 4 [.o 0] hs rfl ?_
  rw[hn]
  refine an rfl rfl (ay mQ aI rfl rfl rfl rfl rfl (fV _ _ _ _) ?_);rintro g1 _ aN rfl;replace hs:=hs.call aN;have ah:=aN.le
  refine Wp 1 rfl ?_
  refine cw (want:=true) (x:=within s.dF 1 9) 3 aI rfl rfl rfl rfl (.inl ⟨rfl,rfl,rfl⟩) rfl rfl rfl rfl (fun hb Q' eE=>?_) (fun g' hf=>?_)
  ·refine Wm 2 [.o 0] hs rfl ?_
   refine an rfl rfl (ay mQ aI rfl rfl rfl rfl rfl (fV _ _ _ _) ?_);rintro g1 _ aN rfl;replace hs:=hs.call aN;have ah:=aN.le
   apply aD
   exact fun a ha=>eE _ a aN (ha.keep (by(repeat (first|exact trivial|refine⟨rfl,?_⟩))))
  exact aD fun a ha=>eE _ a (aN.trans hf) (ha.keep (by(repeat (first|exact trivial|refine⟨rfl,?_⟩))))
 replace hs:=hs.call hf;have ah:=hf.le
 refine ba rfl ?_;refine cP 2 rfl ?_
 refine cw (want:=true) (x:=ascending s.next 0 (n-1)) 1 aI rfl rfl rfl rfl (.inl ⟨rfl,rfl,rfl⟩) rfl rfl rfl rfl (fun hb Q' eE=>?_) (fun g' hf=>?_)
 ·refine Wp 1 rfl ?_;apply aD
  exact fun a ha=>eE _ a (aZ.refl _) (ha.keep (by(repeat (first|exact trivial|refine⟨rfl,?_⟩))))
 replace hs:=hs.call hf;have ah:=hf.le
 refine Wp 1 rfl ?_
 refine cw (want:=true) (x:=(s.back== -1&&s.dF==0)||(within s.back 0 (n-1)&&within s.dF 1 9)) 1 aI rfl rfl rfl rfl (.inl ⟨rfl,rfl,rfl⟩) rfl rfl rfl rfl (fun hb Q' eE=>?_) (fun g' hf=>?_)
 ·refine Wp 1 rfl ?_;apply aD
  exact fun a ha=>eE _ a (aZ.refl _) (ha.keep (by(repeat (first|exact trivial|refine⟨rfl,?_⟩))))
 replace hs:=hs.call hf;have ah:=hf.le
 refine Wp 1 rfl ?_
 refine cw (want:=true) (x:=within s.dD 1 1000000) 3 aI rfl rfl rfl rfl (.inl ⟨rfl,rfl,rfl⟩) rfl rfl rfl rfl (fun hb Q' eE=>?_) (fun g' hf=>?_)
 ·refine Wm 2 [.o 0] hs rfl ?_
  refine an rfl rfl (ay mQ aI rfl rfl rfl rfl rfl (fV _ _ _ _) ?_);rintro g1 _ aN rfl;replace hs:=hs.call aN;have ah:=aN.le
  apply aD
  exact fun a ha=>eE _ a aN (ha.keep (by(repeat (first|exact trivial|refine⟨rfl,?_⟩))))
 replace hs:=hs.call hf;have ah:=hf.le
 refine Wp 1 rfl ?_
 refine cw (want:=true) (x:=within (↑s.dB.length) 1 8) 4 aI rfl rfl rfl rfl (.inl ⟨rfl,rfl,rfl⟩) rfl rfl rfl rfl (fun hb Q' eE=>?_) (fun g' hf=>?_)
 ·refine Wm 3 [.o 0] hs rfl ?_
  refine an rfl rfl (ay mQ aI rfl rfl rfl rfl rfl (fV _ _ _ _) ?_);rintro g1 _ aN rfl;replace hs:=hs.call aN;have ah:=aN.le
  apply aD
  exact fun a ha=>eE _ a aN (ha.keep (by(repeat (first|exact trivial|refine⟨rfl,?_⟩))))
 replace hs:=hs.call hf;have ah:=hf.le
 refine Wp 1 rfl ?_
 refine cw (want:=true) (x:=decide ((s.next.length:Int)≤4)) 4 aI rfl rfl rfl rfl (.inl ⟨rfl,rfl,rfl⟩) rfl rfl rfl rfl (fun hb Q' eE=>?_) (fun g' hf=>?_)
 ·refine Wm 4 [.o 0] hs rfl ?_;apply aD
  exact fun a ha=>eE _ a (aZ.refl _) (ha.keep (by(repeat (first|exact trivial|refine⟨rfl,?_⟩))))
 replace hs:=hs.call hf;have ah:=hf.le
 refine Wp 1 rfl ?_
 refine cw (want:=true) (x:=decide (1≤s.min)) 3 aI rfl rfl rfl rfl (.inl ⟨rfl,rfl,rfl⟩) rfl rfl rfl rfl (fun hb Q' eE=>?_) (fun g' hf=>?_)
 ·refine Wm 3 [.o 0] hs rfl ?_;apply aD
  exact fun a ha=>eE _ a (aZ.refl _) (ha.keep (by(repeat (first|exact trivial|refine⟨rfl,?_⟩))))
 replace hs:=hs.call hf;have ah:=hf.le
 refine Wp 1 rfl ?_
 refine cw (want:=true) (x:=decide (s.min≤s.max)) 5 aI rfl rfl rfl rfl (.inl ⟨rfl,rfl,rfl⟩) rfl rfl rfl rfl (fun hb Q' eE=>?_) (fun g' hf=>?_)
 ·refine Wm 5 [.o 0,.o 0] hs rfl ?_;apply aD
  exact fun a ha=>eE _ a (aZ.refl _) (ha.keep (by(repeat (first|exact trivial|refine⟨rfl,?_⟩))))
 replace hs:=hs.call hf;have ah:=hf.le
 refine Wp 1 rfl ?_
 refine cw (want:=true) (x:=decide (s.max≤10000)) 3 aI rfl rfl rfl rfl (.inl ⟨rfl,rfl,rfl⟩) rfl rfl rfl rfl (fun hb Q' eE=>?_) (fun g' hf=>?_)
 ·refine Wm 3 [.o 0] hs rfl ?_;apply aD
  exact fun a ha=>eE _ a (aZ.refl _) (ha.keep (by(repeat (first|exact trivial|refine⟨rfl,?_⟩))))
 replace hs:=hs.call hf;have ah:=hf.le
 refine ba rfl ?_
 refine aF (aV rfl rfl (hs.ret ?_))
 unfold cg
 refine congrArg Value.bool ?_
 simp only[cond_true]
 ac_rfl
theorem nX(w:cj)(n:Int)(g:G)(h1:0≤n)(h2:n≤9223372036854775807):
  CallsIn Wd 0 Tryz.prog 165 #[.agg #[.int .i64 w.src,.int .i64 w.dst,.int .i64 w.dF],.int .i64 n] g.w (cR g fun _ r=>r= .bool (dS w n)):=by
 have hs:=St.start g
 have hn:IntKind.i64.wrap (n-1)=n-1:=wr (by omega) (by omega)
 refine enter Tryz.func165 rfl Tryz.ntmps165 rfl ?_
 apply c_
 refine an rfl rfl (aR rfl hs rfl rfl ?_);clear hs;rintro b1 g1 hs ah;skip
 refine ba rfl ?_;refine dx 4 [.o 0] hs rfl ?_
 rw[hn]
 refine an rfl rfl (ay mQ aI rfl rfl rfl rfl rfl (fV _ _ _ _) ?_);rintro g1 _ aN rfl;replace hs:=hs.call aN;have ah:=aN.le;skip
 refine Wp 1 rfl ?_
 refine cw (want:=true) (x:=within w.dst 0 (n-1)) 5 aI rfl rfl rfl rfl (.inl ⟨rfl,rfl,rfl⟩) rfl rfl rfl rfl (fun hb Q' eE=>?_) (fun g' hf=>?_)
 ·refine Wm 4 [.o 0] hs rfl ?_
  rw[hn]
  refine an rfl rfl (ay mQ aI rfl rfl rfl rfl rfl (fV _ _ _ _) ?_);rintro g1 _ aN rfl;replace hs:=hs.call aN;have ah:=aN.le;skip
  apply aD
  exact fun a ha=>eE _ a aN (ha.keep (by(repeat (first|exact trivial|refine⟨rfl,?_⟩))))
 replace hs:=hs.call hf
 refine Wp 1 rfl ?_
 refine cw (want:=true) (x:=w.src !=w.dst) 5 aI rfl rfl rfl rfl (.inl ⟨rfl,rfl,rfl⟩) rfl rfl rfl rfl (fun hb Q' eE=>?_) (fun g' hf=>?_)
 ·refine Wm 5 [.o 0,.o 0] hs rfl ?_;apply aD
  exact fun a ha=>eE _ a (aZ.refl _) (ha.keep (by(repeat (first|exact trivial|refine⟨rfl,?_⟩))))
 replace hs:=hs.call hf
 refine Wp 1 rfl ?_
 refine cw (want:=true) (x:=within w.dF 0 1000000) 3 aI rfl rfl rfl rfl (.inl ⟨rfl,rfl,rfl⟩) rfl rfl rfl rfl (fun hb Q' eE=>?_) (fun g' hf=>?_)
 ·refine Wm 2 [.o 0] hs rfl ?_
  refine an rfl rfl (ay mQ aI rfl rfl rfl rfl rfl (fV _ _ _ _) ?_);rintro g1 _ aN rfl;replace hs:=hs.call aN;have ah:=aN.le;skip
  apply aD
  exact fun a ha=>eE _ a aN (ha.keep (by(repeat (first|exact trivial|refine⟨rfl,?_⟩))))
 replace hs:=hs.call hf
 refine ba rfl ?_
 exact aF (aV rfl rfl (hs.ret rfl))
end Go.Proofs.YtebobfdheanknaaGreatDoor
namespace Go.Proofs.YtebobfdheanknaaGreatDoor
open Go Go.K
set_option maxRecDepth 10000
attribute [local irreducible] W WL cT bu bX bA bB bD cW cG
set_option maxHeartbeats 8000000
theorem uA{n:Int}: ∀(a pre b:List cj),ek n pre (a++b)=(ek n pre a&&ek n (pre++a) b)
 |[],pre,b=>by simp[ek]
 |w::a,pre,b=>by
  rw[List.cons_append,ek,ek,uA a,List.append_assoc]
  simp only[Bool.and_assoc,List.singleton_append]
theorem CI{ws:List cj}{k:Nat}(hk:k<ws.length)(h0:0<k):(ws.take k).getLast? =some (ws[k-1]'(by omega)):=by
 rw[List.getLast?_eq_getElem?,List.length_take,Nat.min_eq_left (by omega),List.getElem?_take_of_lt (by omega),List.getElem?_eq_getElem (by omega)]
theorem yW{n:Int}{ws:List cj}{k:Nat}(hk:k<ws.length)(h:ek n [] (ws.take k)=true):
  ek n [] (ws.take (k+1))=(dS ws[k] n&&(decide (k=0)||(k≠0&&kW (ws[k-1]'(by omega)) ws[k]))):=by
 rw[List.take_succ_eq_append_getElem hk,rE,h,Bool.true_and,List.nil_append]
 congr 1
 by_cases h0:k=0
 ·subst h0;rfl
 ·unfold follows
  rw[CI hk (by omega)]
  simp[h0]
theorem Aw{n:Int}{ws:List cj}{k:Nat}(h:ek n [] (ws.take k)=false):ek n [] ws=false:=by
 conv=>lhs;rw[←List.take_append_drop k ws]
 rw[uA,h,Bool.false_and]
theorem Hl{ss:List Step}{n:Int}{k:Nat}(hk:k<ss.length)(h:cg ss[k] n=false):(ss.all fun s=>cg s n)=false:=by
 rw[List.all_eq_false]
 exact⟨ss[k],List.getElem_mem hk,by rw[h];decide⟩
def yX(w:cj):Fact:=⟨fun v g=> ∃b p,v= .pointer (some ⟨b,p,none⟩)∧EP g b p (kO w),fun _ _ _ hf ⟨b,p,e,h⟩=>⟨b,p,e,h.mono hf.le⟩⟩
theorem Ff(v:Value)(f:bV)(g:G)(fk:fA g v f):CallsIn Wd 0 Tryz.prog 81 #[v] g.w (cR g fun _ r=>r= .bool (valid f)):=by
 obtain⟨a1,n1,c1,a2,n2,c2,rfl,aH,aT⟩:=id fk
 obtain⟨_,_,e⟩:=aH.isSlice;obtain⟨rfl,rfl,rfl⟩:=Value.slice.inj e;clear e
 obtain⟨_,_,e⟩:=aT.isSlice;obtain⟨rfl,rfl,rfl⟩:=Value.slice.inj e;clear e
 clear fk
 have qP:=aH.dU;have OD:=aT.dU
 unfold maxLen at qP OD
 have hs:=St.start g
 have aq:=G.le.refl g
 refine enter Tryz.func81 rfl Tryz.ntmps81 rfl ?_
 apply c_
 refine an rfl rfl (aR rfl hs rfl rfl ?_);clear hs;rintro bx g1 hs ah;obtain⟨aq,aH,aT⟩:=ef ah aq aH aT
 obtain⟨g2,bR,aU,ah,aL⟩:=hs.a_ (i:=0) rfl;replace hs:=aU;clear aU;rw[←bR];obtain⟨aq,aH,aT⟩:=ef ah aq aH aT
 have aC:=aL
 clear aL bR ah
 refine ba rfl ?_;refine nK [.z aC] (St.start _) rfl ?_;apply aB;refine dx 4 [.z aC,.z aC] (St.start _) rfl ?_
 refine an rfl rfl (ay LM aI rfl rfl rfl rfl rfl (Fe f.ck f.cu _) ?_);rintro g1 _ aN rfl;replace hs:=hs.call aN;have ah:=aN.le;obtain⟨aq,aC,aH,aT⟩:=dE ah aq aC aH aT
 refine Wp 2 rfl ?_
 have zr:eh ⟨f.ck,f.cu,[],[]⟩=eh f:=rfl
 rw[zr]
 refine cw (want:=false) (x:=!within f.steps.length 1 40) 3 aI rfl rfl rfl rfl (.inr ⟨rfl,rfl,rfl⟩) rfl rfl rfl rfl (fun hb Q' eE=>?_) (fun g' hf=>?_)
 ·refine Wp 1 rfl ?_
  refine an rfl rfl (ay mQ aI rfl rfl rfl rfl rfl (fV _ _ _ _) ?_);rintro g1 _ aN rfl;replace hs:=hs.call aN;have ah:=aN.le;obtain⟨aq,aC,aH,aT⟩:=dE ah aq aC aH aT
  refine Wp 1 rfl ?_;apply aD
  exact fun a ha=>eE _ a aN (ha.keep (by(repeat (first|exact trivial|refine⟨rfl,?_⟩))))
 replace hs:=hs.call hf;have ah:=hf.le;obtain⟨aq,aC,aH,aT⟩:=dE ah aq aC aH aT
 refine Wp 1 rfl ?_
 refine cw (want:=false) (x:=decide (20<(f.windows.length:Int))) 4 aI rfl rfl rfl rfl (.inr ⟨rfl,rfl,rfl⟩) rfl rfl rfl rfl (fun hb Q' eE=>?_) (fun g' hf=>?_)
 ·refine Wm 4 [.z aC] (St.start _) rfl ?_;apply aD
  exact fun a ha=>eE _ a (aZ.refl _) (ha.keep (by(repeat (first|exact trivial|refine⟨rfl,?_⟩))))
 replace hs:=hs.call hf;have ah:=hf.le;obtain⟨aq,aC,aH,aT⟩:=dE ah aq aC aH aT
 apply cf
 have hvalid:valid f=(eh f&&within f.steps.length 1 40&&decide ((f.windows.length:Int)≤20)&&f.steps.all (fun s=>cg s f.steps.length)&&ek f.steps.length [] f.windows):=rfl
 by_cases hc:(!eh f|| !within f.steps.length 1 40||decide (20<(f.windows.length:Int)))=true
 ·refine aJ hc rfl ?_
  refine aX rfl ?_
  refine aF (aV rfl rfl (hs.ret ?_))
  rw[hvalid]
  simp only[Bool.or_eq_true,Bool.not_eq_true',decide_eq_true_eq]at hc
  rcases hc with(h|h)|h
  ·rw[h];simp
  ·rw[h];simp
  ·have e:decide ((f.windows.length:Int)≤20)=false:=by simp;omega
   rw[e];simp
 ·refine aS (Bool.eq_false_iff.2 hc) rfl ?_
  simp only[Bool.not_eq_true,Bool.or_eq_false_iff,Bool.not_eq_false',decide_eq_false_iff_not]at hc
  obtain⟨⟨hm,hw⟩,P9⟩:=hc
  have VA:decide ((f.windows.length:Int)≤20)=true:=by simp;omega
  rw[hm,hw,VA,Bool.true_and,Bool.true_and,Bool.true_and]at hvalid
  apply aE;apply au;apply aB;refine aX rfl ?_;apply aG
  have qz:=aH;have xx:=aT;have qE:=aC;have Qq:=aq
  refine bS (fun m a' w=> ∃(k:Nat) (g4:G),w=g4.w∧St g g4 []∧G.le g' g4∧k≤f.steps.length∧m=f.steps.length-k∧(∀j (h:j<f.steps.length),j<k→cg f.steps[j] f.steps.length=true)∧
   Fr 73 [] [(1,.pointer (some ⟨bx,0,none⟩)),(3,.int .i64 f.steps.length),(4,.int .i64 k)] a') f.steps.length (fun a' ha=>⟨0,g',rfl,hs,G.le.refl _,Nat.zero_le _,rfl,fun _ _ h=>by omega,ha.keep (by(repeat (first|exact trivial|refine⟨rfl,?_⟩)))⟩) ?_
  clear hs aq aH aT aC
  rintro m a' _ ⟨k,g4,rfl,hs,j_,hk,rfl,dy,eI⟩
  have aH:=qz.mono j_
  have aT:=xx.mono j_
  have aC:=qE.mono j_
  revert a'
  apply cQ;apply aB;refine aX rfl ?_
  by_cases bh:k<f.steps.length
  ·refine aJ (b:=_) ?_ rfl ?_
   ·simp;omega
   have ic:dA f.steps (k:Int)=some f.steps[k]:=by simp[dA,bh]
   have nH:=Hl (ss:=f.steps) (n:=f.steps.length) bh
   have jn:cg f.steps[k] f.steps.length=true→ ∀j (h:j<f.steps.length),j<k+1→cg f.steps[j] f.steps.length=true:=by
    intro h1 j h h2
    by_cases hj:j=k
    ·subst hj;exact h1
    ·exact dy j h (by omega)
   generalize f.steps[k]=s at*
   apply aE;apply au;apply aB;apply aG;refine dx 3 [.z aC] (St.start _) rfl ?_
   refine an rfl rfl (aW T.ok rfl aH (y:=s) ic rfl rfl rfl rfl rfl rfl ?_)
   rintro bq pq ys aL ⟨ta,tn,tc,na,nn,nc,rfl,bT,bN⟩
   refine Wm 1 [.e aL 0] (St.start _) rfl ?_
   refine Wp 1 rfl ?_
   refine an rfl rfl (ay LN aI rfl rfl rfl rfl rfl (Hk _ s f.steps.length _ ⟨_,rfl,_,_,_,_,_,_,rfl,bT,bN⟩ (by omega) (by omega)) ?_);rintro g1 _ aN rfl;replace hs:=hs.call aN;have ah:=aN.le;obtain⟨j_,aC,aT⟩:=ef ah j_ aC aT
   refine ba rfl ?_
   cases e1:cg s f.steps.length with
   |false=>
    refine aJ rfl rfl ?_
    refine aX rfl ?_
    refine aF (aV rfl rfl (hs.ret ?_))
    rw[hvalid,nH e1,Bool.false_and]
   |true=>
    refine aS rfl rfl ?_
    apply aE;apply bU;apply au;apply ar;refine Wp 3 rfl ?_;apply aD
    exact fun a ha=>⟨f.steps.length-(k+1),by omega,k+1,_,rfl,hs,j_,by omega,rfl,jn e1,ha.keep ⟨rfl,rfl,kI rfl (by rw[wr (by omega) (by omega)];omega),trivial⟩⟩
  ·refine aS (b:=_) ?_ rfl ?_
   ·simp;omega
   have dh:(f.steps.all fun s=>cg s f.steps.length)=true:=by
    rw[List.all_eq_true]
    intro s hs
    obtain⟨j,hj,rfl⟩:=List.getElem_of_mem hs
    exact dy j hj (by omega)
   rw[dh,Bool.true_and]at hvalid
   clear dy dh
   apply bE;apply bK;apply bK;apply dc;apply au;apply aB;refine aX rfl ?_;apply aG
   have J_:=aT;have wV:=aC
   have oh:=hs
   refine bS (fun m a' w=> ∃(k:Nat) (g5:G),w=g5.w∧St g g5 []∧G.le g4 g5∧k≤f.windows.length∧m=f.windows.length-k∧ek f.steps.length [] (f.windows.take k)=true∧
    Fr 73 [] [(1,.pointer (some ⟨bx,0,none⟩)),(3,.int .i64 f.steps.length),(5,.int .i64 k)] a') f.windows.length (fun a' ha=>⟨0,g4,rfl,hs,G.le.refl _,Nat.zero_le _,rfl,rfl,ha.keep (by(repeat (first|exact trivial|refine⟨rfl,?_⟩)))⟩) ?_
   clear hs oh aH aT aC j_ bh hk
   rintro m a' _ ⟨k,g5,rfl,hs,j_,hk,rfl,dy,eI⟩
   have aT:=J_.mono j_
   have aC:=wV.mono j_
   revert a'
   apply cQ;apply aB;refine nK [.z aC] (St.start _) rfl ?_
   by_cases bh:k<f.windows.length
   ·refine aJ (b:=_) ?_ rfl ?_
    ·simp;omega
    have ic:dA f.windows (k:Int)=some f.windows[k]:=by simp[dA,bh]
    have Fg:=yW (n:=f.steps.length) bh dy
    have Ic:=fun h=>Aw (n:=f.steps.length) (ws:=f.windows) (k:=k+1) h
    have FX:0<k→dA f.windows ((k-1:Nat):Int)=some (f.windows[k-1]'(by omega)):=fun h=>cU rfl (by omega)
    generalize f.windows[k-1]'(by omega)=wp at*
    generalize f.windows[k]=w0 at*
    cases e1:dS w0 f.steps.length with
    |false=>
     rw[e1,Bool.false_and]at Fg
     have RP:valid f=false:=by rw[hvalid,Ic Fg]
     apply aE;apply au;apply aB;apply aG;apply aB
     apply bO hs (eJ (fe (.f (yX (w0))::(fj (fj (gE (eJ (fe [])))))))) 27 [(26,72)] (by kernel_rfl) rfl
     ·refine Dm [[],[0],[]] [.e aC 3] (St.start _) (by kernel_rfl) rfl ?_
      refine aw (ak (js:=[(1,47),(2,48)]) (by kernel_rfl) fun gd hf=>?_) ?_
      ·have eH:=(G.bJ _).trans hf.le
       refine ai rfl ?_;refine ai rfl ?_
       apply aj
       refine az rfl ?_
       refine aW T.ok rfl (aT.mono eH) (y:=w0) ic rfl rfl rfl rfl rfl rfl ?_
       rintro b p ys aL rfl
       exact⟨_,rfl,aZ.refl _,b,p,rfl,aL⟩
      refine aw (ak (js:=[(3,49)]) (by kernel_rfl) fun gd hf=>?_) ?_
      ·skip
       refine aY fun v3 h3=>?_
       apply aj
       obtain⟨b,p,rfl,aL⟩:=h3
       refine az rfl ?_
       refine cp T.ok 0 rfl aL rfl rfl ?_
       refine⟨_,rfl,aZ.refl _,?_⟩
       exact rfl
      refine Dx [[]] (by kernel_rfl) rfl ?_
      refine aw (ak (js:=[(4,50),(5,51)]) (by kernel_rfl) fun gd hf=>?_) ?_
      ·skip
       refine ai rfl ?_;refine ai rfl ?_
       apply aj
       refine az rfl ?_
       refine ay AQ aI rfl rfl rfl rfl rfl (nX w0 f.steps.length _ (by omega) (by omega)) fun g' v h1 h2=>⟨g',rfl,h1,?_⟩
       rw[h2];exact congrArg Value.bool e1
      exact Dy [[6],[7],[8],[9,8],[10,8,8],[11],[12,11],[11],[14,11],[13,15,11],[16,11],[11],[18,11],[11],[19,20,11],[21,11],[17,22,11,11],[23,11],[11,24,8],[8,25]] (by kernel_rfl) rfl
     clear hs;intro g1 hs ah;obtain⟨j_,aC,aT⟩:=ef ah j_ aC aT
     apply cf
     refine aJ rfl rfl ?_
     refine aX rfl ?_
     refine aF (aV rfl rfl (hs.ret ?_))
     rw[RP]
    |true=>
     rw[e1,Bool.true_and]at Fg
     cases e2:decide (0<(k:Int))with
     |false=>
      have zl:k=0:=by simpa using e2
      have jn:ek f.steps.length [] (f.windows.take (k+1))=true:=by rw[Fg];simp[zl]
      apply aE;apply au;apply aB;apply aG;apply aB
      apply bO hs (eJ (fe (.f (yX (w0))::(fj (fj (gE (eJ (fe [])))))))) 27 [(26,72)] (by kernel_rfl) rfl
      ·refine Dm [[],[0],[]] [.e aC 3] (St.start _) (by kernel_rfl) rfl ?_
       refine aw (ak (js:=[(1,47),(2,48)]) (by kernel_rfl) fun gd hf=>?_) ?_
       ·have eH:=(G.bJ _).trans hf.le
        refine ai rfl ?_;refine ai rfl ?_
        apply aj
        refine az rfl ?_
        refine aW T.ok rfl (aT.mono eH) (y:=w0) ic rfl rfl rfl rfl rfl rfl ?_
        rintro b p ys aL rfl
        exact⟨_,rfl,aZ.refl _,b,p,rfl,aL⟩
       refine aw (ak (js:=[(3,49)]) (by kernel_rfl) fun gd hf=>?_) ?_
       ·skip
        refine aY fun v3 h3=>?_
        apply aj
        obtain⟨b,p,rfl,aL⟩:=h3
        refine az rfl ?_
        refine cp T.ok 0 rfl aL rfl rfl ?_
        refine⟨_,rfl,aZ.refl _,?_⟩
        exact rfl
       refine Dx [[]] (by kernel_rfl) rfl ?_
       refine aw (ak (js:=[(4,50),(5,51)]) (by kernel_rfl) fun gd hf=>?_) ?_
       ·skip
        refine ai rfl ?_;refine ai rfl ?_
        apply aj
        refine az rfl ?_
        refine ay AQ aI rfl rfl rfl rfl rfl (nX w0 f.steps.length _ (by omega) (by omega)) fun g' v h1 h2=>⟨g',rfl,h1,?_⟩
        rw[h2];exact congrArg Value.bool e1
       refine Dx [[6],[7],[8]] (by kernel_rfl) rfl ?_
       refine aw (ak (js:=[(9,55),(8,54)]) (by kernel_rfl) fun gd hf=>?_) ?_
       ·skip
        refine ai rfl ?_;refine ai rfl ?_
        apply aj
        refine az rfl ?_
        refine aM _ T.ok rfl ?_
        exact⟨_,rfl,aZ.refl _,congrArg Value.bool e2⟩
       exact Dy [[10,8,8],[11],[12,11],[11],[14,11],[13,15,11],[16,11],[11],[18,11],[11],[19,20,11],[21,11],[17,22,11,11],[23,11],[11,24,8],[8,25]] (by kernel_rfl) rfl
      clear hs;intro g1 hs ah;obtain⟨j_,aC,aT⟩:=ef ah j_ aC aT
      apply cf
      refine aS rfl rfl ?_
      apply aE;apply bU;apply au;apply ar;refine Wp 3 rfl ?_;apply aD
      refine fun a ha=>⟨f.windows.length-(k+1),by omega,k+1,_,rfl,hs,j_,by omega,rfl,jn,ha.keep ⟨rfl,rfl,kI rfl (by rw[wr (by omega) (by omega)];omega),trivial⟩⟩
     |true=>
      have zl:0<k:=by simpa using e2
      have FX:=FX zl
      have OE:ek f.steps.length [] (f.windows.take (k+1))=kW wp w0:=by rw[Fg,decide_eq_false (show ¬k=0 by omega),decide_eq_true (show k≠0 by omega)];rfl
      cases e3:kW wp w0 with
      |false=>
       have RP:valid f=false:=by rw[hvalid,Ic (OE.trans e3)]
       apply aE;apply au;apply aB;apply aG;apply aB
       apply bO hs (eJ (fe (.f (yX (w0))::(fj (gE (.f (yX (wp))::(gE (.f (yX (w0))::(gE (fe [])))))))))) 27 [(26,72)] (by kernel_rfl) rfl
       ·refine Dm [[],[0],[]] [.e aC 3] (St.start _) (by kernel_rfl) rfl ?_
        refine aw (ak (js:=[(1,47),(2,48)]) (by kernel_rfl) fun gd hf=>?_) ?_
        ·have eH:=(G.bJ _).trans hf.le
         refine ai rfl ?_;refine ai rfl ?_
         apply aj
         refine az rfl ?_
         refine aW T.ok rfl (aT.mono eH) (y:=w0) ic rfl rfl rfl rfl rfl rfl ?_
         rintro b p ys aL rfl
         exact⟨_,rfl,aZ.refl _,b,p,rfl,aL⟩
        refine aw (ak (js:=[(3,49)]) (by kernel_rfl) fun gd hf=>?_) ?_
        ·skip
         refine aY fun v3 h3=>?_
         apply aj
         obtain⟨b,p,rfl,aL⟩:=h3
         refine az rfl ?_
         refine cp T.ok 0 rfl aL rfl rfl ?_
         refine⟨_,rfl,aZ.refl _,?_⟩
         exact rfl
        refine Dx [[]] (by kernel_rfl) rfl ?_
        refine aw (ak (js:=[(4,50),(5,51)]) (by kernel_rfl) fun gd hf=>?_) ?_
        ·skip
         refine ai rfl ?_;refine ai rfl ?_
         apply aj
         refine az rfl ?_
         refine ay AQ aI rfl rfl rfl rfl rfl (nX w0 f.steps.length _ (by omega) (by omega)) fun g' v h1 h2=>⟨g',rfl,h1,?_⟩
         rw[h2];exact congrArg Value.bool e1
        refine Dx [[6],[7],[8]] (by kernel_rfl) rfl ?_
        refine aw (ak (js:=[(9,55),(8,54)]) (by kernel_rfl) fun gd hf=>?_) ?_
        ·skip
         refine ai rfl ?_;refine ai rfl ?_
         apply aj
         refine az rfl ?_
         refine aM _ T.ok rfl ?_
         exact⟨_,rfl,aZ.refl _,congrArg Value.bool e2⟩
        refine Dm [[10,8,8],[11],[12,11],[11]] [.e aC 3] (St.start _) (by kernel_rfl) rfl ?_
        refine aw (ak (js:=[(14,60),(11,57)]) (by kernel_rfl) fun gd hf=>?_) ?_
        ·skip
         refine ai rfl ?_;refine ai rfl ?_
         apply aj
         refine az rfl ?_
         refine aM _ T.ok rfl ?_
         refine⟨_,rfl,aZ.refl _,?_⟩
         exact congrArg (Value.int .i64) (show _=((k-1:Nat):Int)from by rw[wr (by omega) (by omega)];omega)
        refine aw (ak (js:=[(13,59),(15,61),(11,57)]) (by kernel_rfl) fun gd hf=>?_) ?_
        ·have eH:=(G.bJ _).trans hf.le
         refine ai rfl ?_;refine ai rfl ?_;refine ai rfl ?_
         apply aj
         refine az rfl ?_
         refine aW T.ok rfl (aT.mono eH) (y:=wp) FX rfl rfl rfl rfl rfl rfl ?_
         rintro b p ys aL rfl
         exact⟨_,rfl,aZ.refl _,b,p,rfl,aL⟩
        refine aw (ak (js:=[(16,62),(11,57)]) (by kernel_rfl) fun gd hf=>?_) ?_
        ·skip
         refine aY fun S' Il=>?_;refine ai rfl ?_
         apply aj
         obtain⟨b,p,rfl,aL⟩:=Il
         refine az rfl ?_
         refine cp T.ok 0 rfl aL rfl rfl ?_
         refine⟨_,rfl,aZ.refl _,?_⟩
         exact rfl
        refine Dm [[11],[18,11],[11]] [.e aC 3] (St.start _) (by kernel_rfl) rfl ?_
        refine aw (ak (js:=[(19,65),(20,66),(11,57)]) (by kernel_rfl) fun gd hf=>?_) ?_
        ·have eH:=(G.bJ _).trans hf.le
         refine ai rfl ?_;refine ai rfl ?_;refine ai rfl ?_
         apply aj
         refine az rfl ?_
         refine aW T.ok rfl (aT.mono eH) (y:=w0) ic rfl rfl rfl rfl rfl rfl ?_
         rintro b p ys aL rfl
         exact⟨_,rfl,aZ.refl _,b,p,rfl,aL⟩
        refine aw (ak (js:=[(21,67),(11,57)]) (by kernel_rfl) fun gd hf=>?_) ?_
        ·skip
         refine aY fun v21 MT=>?_;refine ai rfl ?_
         apply aj
         obtain⟨b,p,rfl,aL⟩:=MT
         refine az rfl ?_
         refine cp T.ok 0 rfl aL rfl rfl ?_
         refine⟨_,rfl,aZ.refl _,?_⟩
         exact rfl
        refine aw (ak (js:=[(17,63),(22,68),(11,57),(11,57)]) (by kernel_rfl) fun gd hf=>?_) ?_
        ·skip
         refine ai rfl ?_;refine ai rfl ?_;refine ai rfl ?_;refine ai rfl ?_
         apply aj
         refine az rfl ?_
         refine ay F3 aI rfl rfl rfl rfl rfl (qk wp w0 _) fun g' v h1 h2=>⟨g',rfl,h1,?_⟩
         rw[h2];exact congrArg Value.bool e3
        exact Dy [[23,11],[11,24,8],[8,25]] (by kernel_rfl) rfl
       clear hs;intro g1 hs ah;obtain⟨j_,aC,aT⟩:=ef ah j_ aC aT
       apply cf
       refine aJ rfl rfl ?_
       refine aX rfl ?_
       refine aF (aV rfl rfl (hs.ret ?_))
       rw[RP]
      |true=>
       have jn:=OE.trans e3
       apply aE;apply au;apply aB;apply aG;apply aB
       apply bO hs (eJ (fe (.f (yX (w0))::(fj (gE (.f (yX (wp))::(gE (.f (yX (w0))::(gE (fe [])))))))))) 27 [(26,72)] (by kernel_rfl) rfl
       ·refine Dm [[],[0],[]] [.e aC 3] (St.start _) (by kernel_rfl) rfl ?_
        refine aw (ak (js:=[(1,47),(2,48)]) (by kernel_rfl) fun gd hf=>?_) ?_
        ·have eH:=(G.bJ _).trans hf.le
         refine ai rfl ?_;refine ai rfl ?_
         apply aj
         refine az rfl ?_
         refine aW T.ok rfl (aT.mono eH) (y:=w0) ic rfl rfl rfl rfl rfl rfl ?_
         rintro b p ys aL rfl
         exact⟨_,rfl,aZ.refl _,b,p,rfl,aL⟩
        refine aw (ak (js:=[(3,49)]) (by kernel_rfl) fun gd hf=>?_) ?_
        ·skip
         refine aY fun v3 h3=>?_
         apply aj
         obtain⟨b,p,rfl,aL⟩:=h3
         refine az rfl ?_
         refine cp T.ok 0 rfl aL rfl rfl ?_
         refine⟨_,rfl,aZ.refl _,?_⟩
         exact rfl
        refine Dx [[]] (by kernel_rfl) rfl ?_
        refine aw (ak (js:=[(4,50),(5,51)]) (by kernel_rfl) fun gd hf=>?_) ?_
        ·skip
         refine ai rfl ?_;refine ai rfl ?_
         apply aj
         refine az rfl ?_
         refine ay AQ aI rfl rfl rfl rfl rfl (nX w0 f.steps.length _ (by omega) (by omega)) fun g' v h1 h2=>⟨g',rfl,h1,?_⟩
         rw[h2];exact congrArg Value.bool e1
        refine Dx [[6],[7],[8]] (by kernel_rfl) rfl ?_
        refine aw (ak (js:=[(9,55),(8,54)]) (by kernel_rfl) fun gd hf=>?_) ?_
        ·skip
         refine ai rfl ?_;refine ai rfl ?_
         apply aj
         refine az rfl ?_
         refine aM _ T.ok rfl ?_
         exact⟨_,rfl,aZ.refl _,congrArg Value.bool e2⟩
        refine Dm [[10,8,8],[11],[12,11],[11]] [.e aC 3] (St.start _) (by kernel_rfl) rfl ?_
        refine aw (ak (js:=[(14,60),(11,57)]) (by kernel_rfl) fun gd hf=>?_) ?_
        ·skip
         refine ai rfl ?_;refine ai rfl ?_
         apply aj
         refine az rfl ?_
         refine aM _ T.ok rfl ?_
         refine⟨_,rfl,aZ.refl _,?_⟩
         exact congrArg (Value.int .i64) (show _=((k-1:Nat):Int)from by rw[wr (by omega) (by omega)];omega)
        refine aw (ak (js:=[(13,59),(15,61),(11,57)]) (by kernel_rfl) fun gd hf=>?_) ?_
        ·have eH:=(G.bJ _).trans hf.le
         refine ai rfl ?_;refine ai rfl ?_;refine ai rfl ?_
         apply aj
         refine az rfl ?_
         refine aW T.ok rfl (aT.mono eH) (y:=wp) FX rfl rfl rfl rfl rfl rfl ?_
         rintro b p ys aL rfl
         exact⟨_,rfl,aZ.refl _,b,p,rfl,aL⟩
        refine aw (ak (js:=[(16,62),(11,57)]) (by kernel_rfl) fun gd hf=>?_) ?_
        ·skip
         refine aY fun S' Il=>?_;refine ai rfl ?_
         apply aj
         obtain⟨b,p,rfl,aL⟩:=Il
         refine az rfl ?_
         refine cp T.ok 0 rfl aL rfl rfl ?_
         refine⟨_,rfl,aZ.refl _,?_⟩
         exact rfl
        refine Dm [[11],[18,11],[11]] [.e aC 3] (St.start _) (by kernel_rfl) rfl ?_
        refine aw (ak (js:=[(19,65),(20,66),(11,57)]) (by kernel_rfl) fun gd hf=>?_) ?_
        ·have eH:=(G.bJ _).trans hf.le
         refine ai rfl ?_;refine ai rfl ?_;refine ai rfl ?_
         apply aj
         refine az rfl ?_
         refine aW T.ok rfl (aT.mono eH) (y:=w0) ic rfl rfl rfl rfl rfl rfl ?_
         rintro b p ys aL rfl
         exact⟨_,rfl,aZ.refl _,b,p,rfl,aL⟩
        refine aw (ak (js:=[(21,67),(11,57)]) (by kernel_rfl) fun gd hf=>?_) ?_
        ·skip
         refine aY fun v21 MT=>?_;refine ai rfl ?_
         apply aj
         obtain⟨b,p,rfl,aL⟩:=MT
         refine az rfl ?_
         refine cp T.ok 0 rfl aL rfl rfl ?_
         refine⟨_,rfl,aZ.refl _,?_⟩
         exact rfl
        refine aw (ak (js:=[(17,63),(22,68),(11,57),(11,57)]) (by kernel_rfl) fun gd hf=>?_) ?_
        ·skip
         refine ai rfl ?_;refine ai rfl ?_;refine ai rfl ?_;refine ai rfl ?_
         apply aj
         refine az rfl ?_
         refine ay F3 aI rfl rfl rfl rfl rfl (qk wp w0 _) fun g' v h1 h2=>⟨g',rfl,h1,?_⟩
         rw[h2];exact congrArg Value.bool e3
        exact Dy [[23,11],[11,24,8],[8,25]] (by kernel_rfl) rfl
       clear hs;intro g1 hs ah;replace j_:=G.le.trans j_ ah
       apply cf
       refine aS rfl rfl ?_
       apply aE;apply bU;apply au;apply ar;refine Wp 3 rfl ?_;apply aD
       refine fun a ha=>⟨f.windows.length-(k+1),by omega,k+1,_,rfl,hs,j_,by omega,rfl,jn,ha.keep ⟨rfl,rfl,kI rfl (by rw[wr (by omega) (by omega)];omega),trivial⟩⟩
   ·refine aS (b:=_) ?_ rfl ?_
    ·simp;omega
    obtain rfl:k=f.windows.length:=by omega
    rw[List.take_length]at dy
    apply bE;apply bK;apply bK;apply dc;apply au;refine aX rfl ?_
    refine aF (aV rfl rfl (hs.ret ?_))
    rw[hvalid,dy]
end Go.Proofs.YtebobfdheanknaaGreatDoor
namespace Go.Proofs.YtebobfdheanknaaGreatDoor
open Go Go.K
set_option maxRecDepth 10000
attribute [local irreducible] W WL cT bu bX bA bB bD cW cG
set_option maxHeartbeats 4000000
theorem pO(v u:Value)(l r:List Int)(g:G)(aH:Rs g v l)(aT:Rs g u r):CallsIn Wd 0 Tryz.prog 15 #[v,u] g.w (cR g fun _ x=>x= .bool (decide (l=r))):=by
 obtain⟨a,c,rfl⟩:=aH.isSlice
 obtain⟨a2,c2,rfl⟩:=aT.isSlice
 have hlen:=aH.dU
 unfold maxLen at hlen
 have hs:=St.start g
 refine enter Tryz.func15 rfl Tryz.ntmps15 rfl ?_
 refine aX rfl ?_;apply aB;refine aX rfl ?_
 by_cases x_:l.length=r.length
 ·refine aS (b:=(l.length:Int) !=(r.length:Int)) (by simp;omega) rfl ?_
  apply aE;apply au;apply aB;refine aX rfl ?_;apply aG
  have qz:=aH;have xx:=aT;have ie:=G.le.refl g
  refine bS (fun m a' w=> ∃(k:Nat) (g2:G),w=g2.w∧St g g2 []∧G.le g g2∧k≤l.length∧m=l.length-k∧l.take k=r.take k∧
    Fr 26 [] [(0,.slice a l.length c),(1,.slice a2 r.length c2),(5,.int .i64 k)] a') l.length
   (fun a' ha=>⟨0,g,rfl,hs,ie,Nat.zero_le _,rfl,by simp,ha.keep (by(repeat (first|exact trivial|refine⟨rfl,?_⟩)))⟩) ?_
  clear hs ie aH aT
  rintro m a' _ ⟨k,g2,rfl,hs,ie,hk,rfl,dy,eI⟩
  have aH:=qz.mono ie;have aT:=xx.mono ie
  revert a'
  apply cQ;apply aB;refine aX rfl ?_
  by_cases bh:k<l.length
  ·refine aJ (b:=decide ((k:Int)<(l.length:Int))) (by simp;omega) rfl ?_
   have Ta:k<r.length:=by omega
   apply aE;apply au;apply aB;apply aG;apply aB
   apply bO hs (eJ (.f (jF l[k])::(eJ (fe (.f (jF r[k])::(eJ [])))))) 9 [(8,25)] (by kernel_rfl) rfl
   ·refine Dx [[],[]] (by kernel_rfl) rfl ?_
    refine aw (ak (js:=[(0,17),(1,18)]) (by kernel_rfl) fun gd hf=>?_) ?_
    ·have eH:=(G.bJ _).trans hf.le
     refine ai rfl ?_;refine ai rfl ?_
     apply aj
     refine az rfl ?_
     refine aW T.ok rfl (aH.mono eH) (y:=l[k]) (cU rfl bh) rfl rfl rfl rfl rfl rfl ?_
     intro b p ys aL eK
     exact⟨_,rfl,aZ.refl _,b,p,rfl,by rw[←show ys=[Value.int .i64 l[k]]from eK];exact aL⟩
    refine aw (ak (js:=[(2,19)]) (by kernel_rfl) fun gd hf=>?_) ?_
    ·skip
     refine aY fun v2 h2=>?_
     apply aj
     obtain⟨b,p,rfl,aL⟩:=h2
     refine az rfl ?_
     refine cp T.ok 0 rfl aL rfl rfl ?_
     refine⟨_,rfl,aZ.refl _,?_⟩
     exact rfl
    refine Dx [[],[]] (by kernel_rfl) rfl ?_
    refine aw (ak (js:=[(4,21),(5,22)]) (by kernel_rfl) fun gd hf=>?_) ?_
    ·have eH:=(G.bJ _).trans hf.le
     refine ai rfl ?_;refine ai rfl ?_
     apply aj
     refine az rfl ?_
     refine aW T.ok rfl (aT.mono eH) (y:=r[k]) (cU rfl Ta) rfl rfl rfl rfl rfl rfl ?_
     intro b p ys aL eK
     exact⟨_,rfl,aZ.refl _,b,p,rfl,by rw[←show ys=[Value.int .i64 r[k]]from eK];exact aL⟩
    refine aw (ak (js:=[(6,23)]) (by kernel_rfl) fun gd hf=>?_) ?_
    ·skip
     refine aY fun v6 h6=>?_
     apply aj
     obtain⟨b,p,rfl,aL⟩:=h6
     refine az rfl ?_
     refine cp T.ok 0 rfl aL rfl rfl ?_
     refine⟨_,rfl,aZ.refl _,?_⟩
     exact rfl
    exact Dy [[3,7]] (by kernel_rfl) rfl
   clear hs;intro g1 hs ah
   replace ie:=ie.trans ah
   apply cf
   by_cases he:l[k]=r[k]
   ·refine aS (b:=l[k] !=r[k]) (by simp[he]) rfl ?_
    apply aE;apply bU;apply au;apply ar;refine Wp 3 rfl ?_;apply aD
    refine fun a ha=>⟨l.length-(k+1),by omega,k+1,_,rfl,hs,ie,by omega,rfl,?_,ha.keep ⟨rfl,rfl,kI rfl (by rw[wr (by omega) (by omega)];omega),trivial⟩⟩
    rw[List.take_succ_eq_append_getElem bh,List.take_succ_eq_append_getElem Ta,dy,he]
   ·refine aJ (b:=l[k] !=r[k]) (by simp[he]) rfl ?_
    refine aX rfl ?_
    refine aF (aV rfl rfl (hs.ret ?_))
    rw[decide_eq_false (fun e=>he (by subst e;rfl))]
  ·refine aS (b:=decide ((k:Int)<(l.length:Int))) (by simp;omega) rfl ?_
   rw[List.take_of_length_le (by omega),List.take_of_length_le (by omega)]at dy
   apply bE;apply bK;apply bK;apply dc;apply au;refine aX rfl ?_
   refine aF (aV rfl rfl (hs.ret ?_))
   rw[decide_eq_true dy]
 ·refine aJ (b:=(l.length:Int) !=(r.length:Int)) (by simp;omega) rfl ?_
  refine aX rfl ?_
  refine aF (aV rfl rfl (hs.ret ?_))
  rw[decide_eq_false (fun e=>x_ (by rw[e]))]
end Go.Proofs.YtebobfdheanknaaGreatDoor
namespace Go.Proofs.YtebobfdheanknaaGreatDoor
open Go Go.K
set_option maxRecDepth 10000
attribute [local irreducible] W WL cT bu bX bA bB bD cW cG
set_option maxHeartbeats 16000000
theorem rG(s:Step): ∀(l:List Step) (j:Nat),gj j (l++[s])=gj j l++(jh (j+l.length) s++[10])
 |[],j=>by simp[gj]
 |x::l,j=>by
  rw[List.cons_append]
  simp only[gj]
  rw[rG s l (j+1),List.length_cons,show j+1+l.length=j+(l.length+1)from by omega]
  simp
theorem uB(w:cj): ∀l:List cj,jY (l++[w])=jY l++(gi w++[10])
 |[]=>by simp[jY]
 |x::l=>by
  rw[List.cons_append]
  simp only[jY]
  rw[uB w l]
  simp
def kA(f:bV):Value:=if valid f=true then .tuple #[.string (bs (tD f)),.int .i64 0]else .tuple #[.string (bs []),.int .i64 40]
theorem xy{f:bV}(h:valid f=true):kA f= .tuple #[.string (bs (tD f)),.int .i64 0]:=by unfold kA;rw[if_pos h]
theorem yY{f:bV}(h:valid f=false):kA f= .tuple #[.string (bs []),.int .i64 40]:=by unfold kA;rw[if_neg (by rw[h];decide)]
theorem BE(xs:List UInt8):(xs.map fun b:UInt8=>(b.toNat:Int)).map (fun m=>UInt8.ofNat m.toNat)=xs:=by
 rw[List.map_map]
 conv=>rhs;rw[←List.map_id xs]
 exact List.map_congr_left fun b _=>by simp
theorem Tc(k:Nat)(h:k<10):IntKind.u8.wrap (48+(k:Int))=((48+k:Nat):Int):=by
 have:k=0∨k=1∨k=2∨k=3∨k=4∨k=5∨k=6∨k=7∨k=8∨k=9:=by omega
 rcases this with rfl|rfl|rfl|rfl|rfl|rfl|rfl|rfl|rfl|rfl<;>rfl
def yZ(n0 m:Nat)(s:List UInt8):Prop:=(m=0∧s≠[]∧dec n0=s)∨((0<m∨s=[])∧dec n0=dec m++s)
theorem yZ.next{n0 m:Nat}{s:List UInt8}(h:yZ n0 m s)(hc:s=[]∨0<m):yZ n0 (m/10) (UInt8.ofNat (48+m % 10)::s):=by
 have h2:dec n0=dec m++s:=by
  rcases h with⟨h1,h2,_⟩|⟨_,h3⟩
  ·rcases hc with h|h
   ·exact absurd h h2
   ·omega
  ·exact h3
 by_cases hm:m<10
 ·refine .inl ⟨by omega,by simp,?_⟩
  rw[h2,gX hm,show m % 10=m by omega];rfl
 ·refine .inr ⟨.inl (by omega),?_⟩
  rw[h2,mw hm];simp
theorem yZ.done{n0 m:Nat}{s:List UInt8}(h:yZ n0 m s)(hs:s≠[])(hm: ¬0<m):dec n0=s:=by
 rcases h with⟨_,_,h⟩|⟨h1,h2⟩
 ·exact h
 ·rcases h1 with h|h
  ·omega
  ·exact absurd h hs
theorem yZ.len{n0 m:Nat}{s:List UInt8}(h:yZ n0 m s):s.length≤(dec n0).length:=by
 rcases h with⟨_,_,h⟩|⟨_,h⟩
 ·rw[h];exact Nat.le_refl _
 ·rw[h,List.length_append];omega
theorem fW(n:Int)(g:G)(hn:mI n):CallsIn Wd 0 Tryz.prog 82 #[.int .i64 n] g.w (cR g fun _ r=>r= .string (bs (cX n))):=by
 obtain⟨n0,rfl⟩: ∃m:Nat,n=m:=⟨n.toNat,by have:=hn.1;omega⟩
 have VB:=dw hn
 have hb:=hn.2
 have RQ:cX (n0:Int)=dec n0:=rfl
 rw[RQ]at VB⊢
 have hs:=St.start g
 refine enter Tryz.func82 rfl Tryz.ntmps82 rfl ?_
 refine aX rfl ?_;refine aX rfl ?_;apply aB;apply aG
 refine bS (fun mm a' w=> ∃(m0:Nat) (s:List UInt8) (g':G),yZ n0 m0 s∧w=g'.w∧St g g' []∧m0≤1000000∧mm=m0+(if s=[]then 1 else 0)∧
  Fr 21 [] [(0,.int .i64 m0),(3,.string (bs s))] a') (n0+1) (fun a' ha=>⟨n0,[],g,.inr ⟨.inr rfl,by simp⟩,rfl,hs,by omega,rfl,ha.keep (by(repeat (first|exact trivial|refine⟨rfl,?_⟩)))⟩) ?_
 clear hs
 rintro mm a' _ ⟨m0,s,g',hD,rfl,hs,hm,rfl,eI⟩
 have jr:=hD.len
 revert a'
 by_cases Pf:s=[]
 ·subst Pf
  apply cQ;apply aB;refine cP 3 rfl ?_
  refine cM 6 (b':=true) (by simp[cD]) rfl ?_
  refine ba rfl ?_
  refine aJ (b:=_) ?_ rfl ?_
  ·simp
  have jn:=hD.next (by exact .inl rfl)
  have RR:(UInt8.ofNat (48+m0 % 10)).toNat=48+m0 % 10:=rb (by omega)
  generalize UInt8.ofNat (48+m0 % 10)=d at*
  apply aE;apply au;apply aG;refine cP 4 rfl ?_
  refine kC (.int .u8 (d.toNat:Int)) (t:=13) rfl (congrArg (Value.int .u8) (by
   show IntKind.u8.wrap (IntKind.i64.wrap (48+((m0 % 10:Nat):Int)))=_
   rw[RR,wr (by omega) (by omega)]
   exact Tc (m0 % 10) (by omega))) ?_
  refine an rfl rfl (bj T.ok rfl hs (vs:=[(0,.int .u8 (d.toNat:Int))]) (cells:=[.int .u8 (d.toNat:Int)]) rfl rfl rfl rfl rfl rfl (by decide) (by decide) (by kernel_rfl) rfl ?_)
  clear hs
  rintro bl gl hs ah
  obtain⟨gz,ik,cS,iT,aH⟩:=hs.cL (α:=UInt8) (xs:=[d]) (i:=0) rfl (cO.bytes _ [d])
  rw[←ik];replace hs:=cS;clear cS
  replace hs:St g gz []:=hs
  obtain⟨_,news,Fh,gn⟩:=Src.jq aH
  obtain rfl:=cO.Cp Fh
  refine an rfl rfl (mh T.ok (ns:=[(d.toNat:Int)]) rfl rfl rfl rfl rfl rfl rfl rfl gn ?_)
  rw[show([(d.toNat:Int)].map fun m=>UInt8.ofNat m.toNat)=[d]from BE [d]]
  clear gn Fh aH
  refine Wp 1 rfl ?_
  refine an rfl rfl (cA (p:=[d]) (q:=[]) rfl rfl rfl (by simp only[List.length_singleton];omega) ?_)
  refine ba rfl ?_;apply ar;refine Wp 3 rfl ?_;apply aD;apply bU
  exact fun a ha=>⟨m0/10+0,by simp;omega,m0/10,[d]++[],gz,jn,rfl,hs,by omega,by simp,ha.keep ⟨kI rfl (show IntKind.i64.wrap ((m0/10:Nat):Int)=_ from wr (by omega) (by omega)),rfl,trivial⟩⟩
 ·apply cQ;apply aB;refine cP 3 rfl ?_
  refine cM 6 (b':=false) (by rw[cD];simp[Pf]) rfl ?_
  by_cases Td:0<m0
  ·refine ba rfl ?_
   refine aJ (b:=_) ?_ rfl ?_
   ·simp;omega
   have jn:=hD.next (by exact .inr Td)
   have RR:(UInt8.ofNat (48+m0 % 10)).toNat=48+m0 % 10:=rb (by omega)
   generalize UInt8.ofNat (48+m0 % 10)=d at*
   apply aE;apply au;apply aG;refine cP 4 rfl ?_
   refine kC (.int .u8 (d.toNat:Int)) (t:=13) rfl (congrArg (Value.int .u8) (by
    show IntKind.u8.wrap (IntKind.i64.wrap (48+((m0 % 10:Nat):Int)))=_
    rw[RR,wr (by omega) (by omega)]
    exact Tc (m0 % 10) (by omega))) ?_
   refine an rfl rfl (bj T.ok rfl hs (vs:=[(0,.int .u8 (d.toNat:Int))]) (cells:=[.int .u8 (d.toNat:Int)]) rfl rfl rfl rfl rfl rfl (by decide) (by decide) (by kernel_rfl) rfl ?_)
   clear hs
   rintro bl gl hs ah
   obtain⟨gz,ik,cS,iT,aH⟩:=hs.cL (α:=UInt8) (xs:=[d]) (i:=0) rfl (cO.bytes _ [d])
   rw[←ik];replace hs:=cS;clear cS
   replace hs:St g gz []:=hs
   obtain⟨_,news,Fh,gn⟩:=Src.jq aH
   obtain rfl:=cO.Cp Fh
   refine an rfl rfl (mh T.ok (ns:=[(d.toNat:Int)]) rfl rfl rfl rfl rfl rfl rfl rfl gn ?_)
   rw[show([(d.toNat:Int)].map fun m=>UInt8.ofNat m.toNat)=[d]from BE [d]]
   clear gn Fh aH
   refine Wp 1 rfl ?_
   refine an rfl rfl (cA (p:=[d]) (q:=s) rfl rfl rfl (by simp only[List.length_singleton];omega) ?_)
   refine ba rfl ?_;apply ar;refine Wp 3 rfl ?_;apply aD;apply bU
   exact fun a ha=>⟨m0/10+0,by simp[Pf];omega,m0/10,[d]++s,gz,jn,rfl,hs,by omega,by simp,ha.keep ⟨kI rfl (show IntKind.i64.wrap ((m0/10:Nat):Int)=_ from wr (by omega) (by omega)),rfl,trivial⟩⟩
  ·refine ba rfl ?_
   refine aS (b:=_) ?_ rfl ?_
   ·simp;omega
   have zH:=hD.done Pf Td
   rw[zH]
   apply bE;apply bK;apply bK;apply dc;apply au;refine aX rfl ?_
   exact aF (aV rfl rfl (hs.ret rfl))
theorem u9{l:List Int}{k:Nat}(hk:k<l.length):(l.take (k+1)).map cX=(l.take k).map cX++[cX l[k]]:=by
 rw[List.take_succ_eq_append_getElem hk,List.map_append];rfl
theorem Hm{ps:List (List UInt8)}(h:ps≠[])(hp: ∀p∈ps,p≠[]):gw 44 ps≠[]:=by
 cases ps with
 |nil=>exact absurd rfl h
 |cons x r=>
  cases r with
  |nil=>exact hp x (List.mem_cons_self ..)
  |cons y r=>rw[show gw 44 (x::y::r)=x++44::gw 44 (y::r)from rfl];simp
theorem BF(v:Value)(l:List Int)(g:G)(hl:Rs g v l)(hb: ∀n∈l,mI n)(hn:l.length≤1000):CallsIn Wd 0 Tryz.prog 166 #[v] g.w (cR g fun _ r=>r= .string (bs (jv l))):=by
 obtain⟨pa,pc,rfl⟩:=hl.isSlice
 have hs:=St.start g
 refine enter Tryz.func166 rfl Tryz.ntmps166 rfl ?_
 refine aX rfl ?_;refine aX rfl ?_;apply aB;refine aX rfl ?_;apply aG
 refine bS (fun m a' w=> ∃(k:Nat) (g':G),w=g'.w∧St g g' []∧G.le g g'∧k≤l.length∧m=l.length-k∧
  Fr 25 [] [(0,.slice pa l.length pc),(3,.string (bs (gw 44 ((l.take k).map cX)))),(4,.int .i64 k)] a') l.length (fun a' ha=>⟨0,g,rfl,hs,G.le.refl _,Nat.zero_le _,rfl,ha.keep (by(repeat (first|exact trivial|refine⟨rfl,?_⟩)))⟩) ?_
 clear hs
 rintro m a' _ ⟨k,g',rfl,hs,aq,hk,rfl,eI⟩
 have aH:=hl.mono aq
 have OU:(gw 44 ((l.take k).map cX)).length≤8000:=by
  have h1:=oZ (c:=44) (k:=7) (l:=(l.take k).map cX) fun x hx=>by
   obtain⟨n,hn,rfl⟩:=List.mem_map.1 hx
   exact dw (hb n (List.mem_of_mem_take hn))
  rw[List.length_map,List.length_take]at h1
  omega
 revert a'
 apply cQ;apply aB;refine aX rfl ?_
 by_cases bh:k<l.length
 ·refine aJ (b:=decide ((k:Int)<(l.length:Int))) (by simp;omega) rfl ?_
  have ic:dA l (k:Int)=some l[k]:=by simp[dA,bh]
  have Bc:=hb _ (List.getElem_mem bh)
  have FJ:=dw Bc
  have dm:=u9 bh
  generalize l[k]=x at*
  by_cases zl:k=0
  ·subst zl
   apply aE;apply au;apply aB;apply aG;apply aB;refine aX rfl ?_
   refine aS rfl rfl ?_
   apply aE;apply au;apply ar;refine Wp 3 rfl ?_
   refine an rfl rfl (aW T.ok rfl aH (y:=x) ic rfl rfl rfl rfl rfl rfl ?_)
   rintro b p ys aL rfl
   refine Wm 1 [.e aL 0] (St.start _) rfl ?_
   refine an rfl rfl (ay qy aI rfl rfl rfl rfl rfl (fW x _ Bc) ?_);rintro g1 _ aN rfl;replace hs:=hs.call aN;have ah:=aN.le;obtain⟨aq,aH⟩:=cC ah aq aH
   refine an rfl rfl (cA (p:=[]) (q:=cX x) rfl rfl rfl (by simp;omega) ?_)
   refine Wp 1 rfl ?_;apply aD;apply bU;apply au;apply ar;refine Wp 3 rfl ?_;apply aD
   exact fun a ha=>⟨l.length-1,by omega,1,_,rfl,hs,aq,by omega,rfl,ha.keep ⟨rfl,kV rfl (by rw[dm];rfl),rfl,trivial⟩⟩
  ·apply aE;apply au;apply aB;apply aG;apply aB;refine aX rfl ?_
   refine aJ (b:=_) ?_ rfl ?_
   ·simp;omega
   apply ar;refine Wp 1 rfl ?_
   refine an rfl rfl (cA (p:=gw 44 ((l.take k).map cX)) (q:=[44]) rfl rfl rfl (by simp only[List.length_singleton];omega) ?_)
   refine ba rfl ?_;apply ar;refine Wp 3 rfl ?_
   refine an rfl rfl (aW T.ok rfl aH (y:=x) ic rfl rfl rfl rfl rfl rfl ?_)
   rintro b p ys aL rfl
   refine Wm 1 [.e aL 0] (St.start _) rfl ?_
   refine an rfl rfl (ay qy aI rfl rfl rfl rfl rfl (fW x _ Bc) ?_);rintro g1 _ aN rfl;replace hs:=hs.call aN;have ah:=aN.le;replace aq:=G.le.trans aq ah
   refine an rfl rfl (cA (p:=gw 44 ((l.take k).map cX)++[44]) (q:=cX x) rfl rfl rfl (by rw[List.length_append,List.length_singleton];omega) ?_)
   refine Wp 1 rfl ?_;apply aD;apply bU;apply au;apply ar;refine Wp 3 rfl ?_;apply aD
   have fu:(l.take k).map cX≠[]:=by
    intro h
    have:=congrArg List.length h
    rw[List.length_map,List.length_take,List.length_nil]at this
    omega
   exact fun a ha=>⟨l.length-(k+1),by omega,k+1,_,rfl,hs,aq,by omega,rfl,ha.keep ⟨rfl,kV rfl (by rw[dm,vS 44 _ _ fu];simp),kI rfl (by rw[wr (by omega) (by omega)];omega),trivial⟩⟩
 ·refine aS (b:=decide ((k:Int)<(l.length:Int))) (by simp;omega) rfl ?_
  obtain rfl:k=l.length:=by omega
  rw[List.take_length]at*
  apply bE;apply bK;apply bK;apply dc;apply au;apply aB;refine aX rfl ?_
  unfold jv
  by_cases C2:l=[]
  ·subst C2
   refine aJ (b:=_) ?_ rfl ?_
   ·simp[gw,cD]
   refine aX rfl ?_
   exact aF (aV rfl rfl (hs.ret rfl))
  ·rw[if_neg C2]
   refine aS (b:=_) ?_ rfl ?_
   ·have:=Hm (ps:=l.map cX) (by simpa using C2) fun p hp=>by
     obtain⟨n,_,rfl⟩:=List.mem_map.1 hp
     exact uk _
    rw[cD];simp[this]
   apply aE;apply au;refine aX rfl ?_
   exact aF (aV rfl rfl (hs.ret rfl))
theorem u_(w0:cj)(g:G)(h:mI w0.src∧mI w0.dst∧mI w0.dF):CallsIn Wd 0 Tryz.prog 84 #[.agg (kO w0).toArray] g.w (cR g fun _ r=>r= .string (bs (gi w0))):=by
 have hs:=St.start g
 have aq:=G.le.refl g
 have l1:=dw h.1;have l2:=dw h.2.1;have l3:=dw h.2.2
 rw[ov]
 unfold kO
 refine enter Tryz.func84 rfl Tryz.ntmps84 rfl ?_
 apply c_
 refine an rfl rfl (aR rfl hs rfl rfl ?_);clear hs;rintro bx g1 hs ah
 obtain⟨g2,bR,aU,ah,aL⟩:=hs.a_ (i:=0) rfl;replace hs:=aU;clear aU;rw[←bR]
 have aC:=aL
 clear aL bR ah
 refine ba rfl ?_;apply aB
 apply bO hs (fj (gE (eJ []))) 14 [(13,16)] (by kernel_rfl) rfl
 ·refine Dm [[],[0]] [.e aC 0] (St.start _) (by kernel_rfl) rfl ?_
  refine aw (ak (js:=[(1,4)]) (by kernel_rfl) fun gd hf=>?_) ?_
  ·skip
   refine ai rfl ?_
   apply aj
   refine az rfl ?_
   refine ay qy aI rfl rfl rfl rfl rfl (fW (w0.src) _ h.1) fun g' v h1 h2=>⟨g',rfl,h1,?_⟩
   exact h2
  refine aw (ak (js:=[(2,5)]) (by kernel_rfl) fun gd hf=>?_) ?_
  ·skip
   refine ai rfl ?_
   apply aj
   refine az rfl ?_
   refine cA (p:=db) (q:=cX w0.src) rfl rfl rfl (by simp only[List.length_cons,List.length_nil,db];omega) ?_
   exact⟨_,rfl,aZ.refl _,rfl⟩
  refine aw (ak (js:=[(3,6)]) (by kernel_rfl) fun gd hf=>?_) ?_
  ·skip
   refine ai rfl ?_
   apply aj
   refine az rfl ?_
   refine cA (p:=db++cX w0.src) (q:=[32]) rfl rfl rfl (by simp only[List.length_append,List.length_cons,List.length_nil,db];omega) ?_
   exact⟨_,rfl,aZ.refl _,rfl⟩
  refine Dm [[],[5]] [.e aC 1] (St.start _) (by kernel_rfl) rfl ?_
  refine aw (ak (js:=[(6,9)]) (by kernel_rfl) fun gd hf=>?_) ?_
  ·skip
   refine ai rfl ?_
   apply aj
   refine az rfl ?_
   refine ay qy aI rfl rfl rfl rfl rfl (fW (w0.dst) _ h.2.1) fun g' v h1 h2=>⟨g',rfl,h1,?_⟩
   exact h2
  refine aw (ak (js:=[(4,7),(7,10)]) (by kernel_rfl) fun gd hf=>?_) ?_
  ·skip
   refine ai rfl ?_;refine ai rfl ?_
   apply aj
   refine az rfl ?_
   refine cA (p:=db++cX w0.src++[32]) (q:=cX w0.dst) rfl rfl rfl (by simp only[List.length_append,List.length_cons,List.length_nil,db];omega) ?_
   exact⟨_,rfl,aZ.refl _,rfl⟩
  refine aw (ak (js:=[(8,11)]) (by kernel_rfl) fun gd hf=>?_) ?_
  ·skip
   refine ai rfl ?_
   apply aj
   refine az rfl ?_
   refine cA (p:=db++cX w0.src++[32]++cX w0.dst) (q:=[32]) rfl rfl rfl (by simp only[List.length_append,List.length_cons,List.length_nil,db];omega) ?_
   exact⟨_,rfl,aZ.refl _,rfl⟩
  refine Dm [[],[10]] [.e aC 2] (St.start _) (by kernel_rfl) rfl ?_
  refine aw (ak (js:=[(11,14)]) (by kernel_rfl) fun gd hf=>?_) ?_
  ·skip
   refine ai rfl ?_
   apply aj
   refine az rfl ?_
   refine ay qy aI rfl rfl rfl rfl rfl (fW (w0.dF) _ h.2.2) fun g' v h1 h2=>⟨g',rfl,h1,?_⟩
   exact h2
  refine aw (ak (js:=[(9,12),(12,15)]) (by kernel_rfl) fun gd hf=>?_) ?_
  ·skip
   refine ai rfl ?_;refine ai rfl ?_
   apply aj
   refine az rfl ?_
   refine cA (p:=db++cX w0.src++[32]++cX w0.dst++[32]) (q:=cX w0.dF) rfl rfl rfl (by simp only[List.length_append,List.length_cons,List.length_nil,db];omega) ?_
   exact⟨_,rfl,aZ.refl _,rfl⟩
  exact fJ
 clear hs;intro g1 hs ah
 refine ba rfl ?_
 exact aF (aV rfl rfl (hs.ret rfl))
theorem y6(i:Nat)(v:Value)(s:Step)(g:G)(hv:ja g v s)(hi:i≤1000000)(hB:vT s):CallsIn Wd 0 Tryz.prog 83 #[.int .i64 i,v] g.w (cR g fun _ r=>r= .string (bs (jh i s))):=by
 obtain⟨cs,rfl,a1,n1,c1,a2,n2,c2,rfl,aH,aT⟩:=hv
 have hs:=St.start g
 have aq:=G.le.refl g
 have Te:mI (i:Int):=⟨by omega,by omega⟩
 have l0:=dw Te
 have l1:=dw hB.n.dD;have l2:=dw hB.n.min;have l3:=dw hB.n.max
 have l4:=nW hB.n.Av;have l5:=nW hB.n.next
 have l6:=hB.dB;have l7:=hB.next
 have VC:cX (i:Int)=dec i:=rfl
 refine enter Tryz.func83 rfl Tryz.ntmps83 rfl ?_
 apply c_
 refine an rfl rfl (aR rfl hs rfl rfl ?_);clear hs;rintro bx g1 hs ah;obtain⟨aH,aT⟩:=cC ah aH aT
 obtain⟨g2,bR,aU,ah,aL⟩:=hs.a_ (i:=0) rfl;replace hs:=aU;clear aU;rw[←bR];obtain⟨aH,aT⟩:=cC ah aH aT
 have aC:=aL
 clear aL bR ah
 refine ba rfl ?_;apply aB
 apply bO hs (fj (fj (fj (gE (fe []))))) 29 [(28,5)] (by kernel_rfl) rfl
 ·refine Dx [[]] (by kernel_rfl) rfl ?_
  refine aw (ak (js:=[(0,6)]) (by kernel_rfl) fun gd hf=>?_) ?_
  ·skip
   refine ai rfl ?_
   apply aj
   refine az rfl ?_
   refine ay qy aI rfl rfl rfl rfl rfl (fW ((i:Int)) _ Te) fun g' v h1 h2=>⟨g',rfl,h1,?_⟩
   exact h2
  refine aw (ak (js:=[(1,7)]) (by kernel_rfl) fun gd hf=>?_) ?_
  ·skip
   refine ai rfl ?_
   apply aj
   refine az rfl ?_
   refine cA (p:=dW) (q:=cX i) rfl rfl rfl (by simp only[List.length_cons,List.length_nil,dW];omega) ?_
   exact⟨_,rfl,aZ.refl _,rfl⟩
  refine aw (ak (js:=[(2,8)]) (by kernel_rfl) fun gd hf=>?_) ?_
  ·skip
   refine ai rfl ?_
   apply aj
   refine az rfl ?_
   refine cA (p:=dW++cX i) (q:=cF) rfl rfl rfl (by simp only[List.length_append,List.length_cons,List.length_nil,dW,cF];omega) ?_
   exact⟨_,rfl,aZ.refl _,rfl⟩
  refine Dm [[],[4]] [.e aC 0] (St.start _) (by kernel_rfl) rfl ?_
  refine aw (ak (js:=[(5,11)]) (by kernel_rfl) fun gd hf=>?_) ?_
  ·skip
   refine ai rfl ?_
   apply aj
   refine az rfl ?_
   refine ay qy aI rfl rfl rfl rfl rfl (fW (s.dD) _ hB.n.dD) fun g' v h1 h2=>⟨g',rfl,h1,?_⟩
   exact h2
  refine aw (ak (js:=[(3,9),(6,12)]) (by kernel_rfl) fun gd hf=>?_) ?_
  ·skip
   refine ai rfl ?_;refine ai rfl ?_
   apply aj
   refine az rfl ?_
   refine cA (p:=dW++cX i++cF) (q:=cX s.dD) rfl rfl rfl (by simp only[List.length_append,List.length_cons,List.length_nil,dW,cF];omega) ?_
   exact⟨_,rfl,aZ.refl _,rfl⟩
  refine aw (ak (js:=[(7,13)]) (by kernel_rfl) fun gd hf=>?_) ?_
  ·skip
   refine ai rfl ?_
   apply aj
   refine az rfl ?_
   refine cA (p:=dW++cX i++cF++cX s.dD) (q:=du) rfl rfl rfl (by simp only[List.length_append,List.length_cons,List.length_nil,dW,cF,du];omega) ?_
   exact⟨_,rfl,aZ.refl _,rfl⟩
  refine Dm [[],[9]] [.e aC 1] (St.start _) (by kernel_rfl) rfl ?_
  refine aw (ak (js:=[(10,16)]) (by kernel_rfl) fun gd hf=>?_) ?_
  ·have eH:=(G.bJ _).trans hf.le
   refine ai rfl ?_
   apply aj
   refine az rfl ?_
   refine ay HI aI rfl rfl rfl rfl rfl (BF _ (s.dB) _ (aH.mono eH) hB.n.Av (by omega)) fun g' v h1 h2=>⟨g',rfl,h1,?_⟩
   exact h2
  refine aw (ak (js:=[(8,14),(11,17)]) (by kernel_rfl) fun gd hf=>?_) ?_
  ·skip
   refine ai rfl ?_;refine ai rfl ?_
   apply aj
   refine az rfl ?_
   refine cA (p:=dW++cX i++cF++cX s.dD++du) (q:=jv s.dB) rfl rfl rfl (by simp only[List.length_append,List.length_cons,List.length_nil,dW,cF,du];omega) ?_
   exact⟨_,rfl,aZ.refl _,rfl⟩
  refine aw (ak (js:=[(12,18)]) (by kernel_rfl) fun gd hf=>?_) ?_
  ·skip
   refine ai rfl ?_
   apply aj
   refine az rfl ?_
   refine cA (p:=dW++cX i++cF++cX s.dD++du++jv s.dB) (q:=eC) rfl rfl rfl (by simp only[List.length_append,List.length_cons,List.length_nil,dW,cF,du,eC];omega) ?_
   exact⟨_,rfl,aZ.refl _,rfl⟩
  refine Dm [[],[14]] [.e aC 2] (St.start _) (by kernel_rfl) rfl ?_
  refine aw (ak (js:=[(15,21)]) (by kernel_rfl) fun gd hf=>?_) ?_
  ·skip
   refine ai rfl ?_
   apply aj
   refine az rfl ?_
   refine ay qy aI rfl rfl rfl rfl rfl (fW (s.min) _ hB.n.min) fun g' v h1 h2=>⟨g',rfl,h1,?_⟩
   exact h2
  refine aw (ak (js:=[(13,19),(16,22)]) (by kernel_rfl) fun gd hf=>?_) ?_
  ·skip
   refine ai rfl ?_;refine ai rfl ?_
   apply aj
   refine az rfl ?_
   refine cA (p:=dW++cX i++cF++cX s.dD++du++jv s.dB++eC) (q:=cX s.min) rfl rfl rfl (by simp only[List.length_append,List.length_cons,List.length_nil,dW,cF,du,eC];omega) ?_
   exact⟨_,rfl,aZ.refl _,rfl⟩
  refine aw (ak (js:=[(17,23)]) (by kernel_rfl) fun gd hf=>?_) ?_
  ·skip
   refine ai rfl ?_
   apply aj
   refine az rfl ?_
   refine cA (p:=dW++cX i++cF++cX s.dD++du++jv s.dB++eC++cX s.min) (q:=[46,46]) rfl rfl rfl (by simp only[List.length_append,List.length_cons,List.length_nil,dW,cF,du,eC];omega) ?_
   exact⟨_,rfl,aZ.refl _,rfl⟩
  refine Dm [[],[19]] [.e aC 3] (St.start _) (by kernel_rfl) rfl ?_
  refine aw (ak (js:=[(20,26)]) (by kernel_rfl) fun gd hf=>?_) ?_
  ·skip
   refine ai rfl ?_
   apply aj
   refine az rfl ?_
   refine ay qy aI rfl rfl rfl rfl rfl (fW (s.max) _ hB.n.max) fun g' v h1 h2=>⟨g',rfl,h1,?_⟩
   exact h2
  refine aw (ak (js:=[(18,24),(21,27)]) (by kernel_rfl) fun gd hf=>?_) ?_
  ·skip
   refine ai rfl ?_;refine ai rfl ?_
   apply aj
   refine az rfl ?_
   refine cA (p:=dW++cX i++cF++cX s.dD++du++jv s.dB++eC++cX s.min++[46,46]) (q:=cX s.max) rfl rfl rfl (by simp only[List.length_append,List.length_cons,List.length_nil,dW,cF,du,eC];omega) ?_
   exact⟨_,rfl,aZ.refl _,rfl⟩
  refine aw (ak (js:=[(22,28)]) (by kernel_rfl) fun gd hf=>?_) ?_
  ·skip
   refine ai rfl ?_
   apply aj
   refine az rfl ?_
   refine cA (p:=dW++cX i++cF++cX s.dD++du++jv s.dB++eC++cX s.min++[46,46]++cX s.max) (q:=e_) rfl rfl rfl (by simp only[List.length_append,List.length_cons,List.length_nil,dW,cF,du,eC,e_];omega) ?_
   exact⟨_,rfl,aZ.refl _,rfl⟩
  refine Dm [[],[24]] [.e aC 4] (St.start _) (by kernel_rfl) rfl ?_
  refine aw (ak (js:=[(25,31)]) (by kernel_rfl) fun gd hf=>?_) ?_
  ·have eH:=(G.bJ _).trans hf.le
   refine ai rfl ?_
   apply aj
   refine az rfl ?_
   refine ay HI aI rfl rfl rfl rfl rfl (BF _ (s.next) _ (aT.mono eH) hB.n.next (by omega)) fun g' v h1 h2=>⟨g',rfl,h1,?_⟩
   exact h2
  refine aw (ak (js:=[(23,29),(26,32)]) (by kernel_rfl) fun gd hf=>?_) ?_
  ·skip
   refine ai rfl ?_;refine ai rfl ?_
   apply aj
   refine az rfl ?_
   refine cA (p:=dW++cX i++cF++cX s.dD++du++jv s.dB++eC++cX s.min++[46,46]++cX s.max++e_) (q:=jv s.next) rfl rfl rfl (by simp only[List.length_append,List.length_cons,List.length_nil,dW,cF,du,eC,e_];omega) ?_
   exact⟨_,rfl,aZ.refl _,rfl⟩
  exact Dy [[27,27]] (by kernel_rfl) rfl
 clear hs;intro g1 hs ah;replace aC:=aC.mono ah
 have hh:dW++cX i++cF++cX s.dD++du++jv s.dB++eC++cX s.min++[46,46]++cX s.max++e_++jv s.next=uu i s:=by
  unfold uu nE
  rw[VC];simp[List.append_assoc]
 rw[hh]
 rw[nF]
 have Ku:=rf hi hB
 unfold yU
 generalize uu i s=H at*
 apply cf;apply aB;refine nK [.z aC] (St.start _) rfl ?_
 by_cases Bc:0≤s.back
 ·rw[if_pos Bc]
  have Pg:mI s.back∧mI s.dF:=by
   rcases hB.n.back with h|h
   ·omega
   ·exact h
  have l8:=dw Pg.1;have l9:=dw Pg.2
  refine aJ (b:=_) ?_ rfl ?_
  ·simp[Bc]
  skip
  apply bO hs (fj (eJ (fe []))) 11 [(10,47)] (by kernel_rfl) rfl
  ·refine Dx [[]] (by kernel_rfl) rfl ?_
   refine aw (ak (js:=[(0,37)]) (by kernel_rfl) fun gd hf=>?_) ?_
   ·skip
    refine ai rfl ?_
    apply aj
    refine az rfl ?_
    refine cA (p:=H) (q:=fb) rfl rfl rfl (by simp only[List.length_cons,List.length_nil,fb];omega) ?_
    exact⟨_,rfl,aZ.refl _,rfl⟩
   refine Dm [[],[2]] [.e aC 5] (St.start _) (by kernel_rfl) rfl ?_
   refine aw (ak (js:=[(3,40)]) (by kernel_rfl) fun gd hf=>?_) ?_
   ·skip
    refine ai rfl ?_
    apply aj
    refine az rfl ?_
    refine ay qy aI rfl rfl rfl rfl rfl (fW (s.back) _ Pg.1) fun g' v h1 h2=>⟨g',rfl,h1,?_⟩
    exact h2
   refine aw (ak (js:=[(1,38),(4,41)]) (by kernel_rfl) fun gd hf=>?_) ?_
   ·skip
    refine ai rfl ?_;refine ai rfl ?_
    apply aj
    refine az rfl ?_
    refine cA (p:=H++fb) (q:=cX s.back) rfl rfl rfl (by simp only[List.length_append,List.length_cons,List.length_nil,fb];omega) ?_
    exact⟨_,rfl,aZ.refl _,rfl⟩
   refine aw (ak (js:=[(5,42)]) (by kernel_rfl) fun gd hf=>?_) ?_
   ·skip
    refine ai rfl ?_
    apply aj
    refine az rfl ?_
    refine cA (p:=H++fb++cX s.back) (q:=AF) rfl rfl rfl (by simp only[List.length_append,List.length_cons,List.length_nil,fb,AF];omega) ?_
    exact⟨_,rfl,aZ.refl _,rfl⟩
   refine Dm [[],[7]] [.e aC 6] (St.start _) (by kernel_rfl) rfl ?_
   refine aw (ak (js:=[(8,45)]) (by kernel_rfl) fun gd hf=>?_) ?_
   ·skip
    refine ai rfl ?_
    apply aj
    refine az rfl ?_
    refine ay qy aI rfl rfl rfl rfl rfl (fW (s.dF) _ Pg.2) fun g' v h1 h2=>⟨g',rfl,h1,?_⟩
    exact h2
   refine aw (ak (js:=[(6,43),(9,46)]) (by kernel_rfl) fun gd hf=>?_) ?_
   ·skip
    refine ai rfl ?_;refine ai rfl ?_
    apply aj
    refine az rfl ?_
    refine cA (p:=H++fb++cX s.back++AF) (q:=cX s.dF) rfl rfl rfl (by simp only[List.length_append,List.length_cons,List.length_nil,fb,AF];omega) ?_
    exact⟨_,rfl,aZ.refl _,rfl⟩
   exact fJ
  clear hs;intro g1 hs ah
  refine ba rfl ?_;refine aX rfl ?_
  refine aF (aV rfl rfl (hs.ret ?_))
  simp[List.append_assoc]
 ·rw[if_neg Bc,List.append_nil]
  refine aS (b:=_) ?_ rfl ?_
  ·simp;omega
  apply aE;apply au;refine aX rfl ?_
  exact aF (aV rfl rfl (hs.ret rfl))
theorem y7{l:List Step}{k:Nat}(hk:k<l.length):gj 0 (l.take (k+1))=gj 0 (l.take k)++jh k l[k]++[10]:=by
 rw[List.take_succ_eq_append_getElem hk,rG,List.length_take,Nat.zero_add,Nat.min_eq_left (by omega)]
 simp
theorem Ax{l:List cj}{k:Nat}(hk:k<l.length):jY (l.take (k+1))=jY (l.take k)++gi l[k]++[10]:=by
 rw[List.take_succ_eq_append_getElem hk,uB]
 simp
theorem Ew(v:Value)(f:bV)(g:G)(fk:fA g v f):CallsIn Wd 0 Tryz.prog 37 #[v] g.w (cR g fun _ r=>r=kA f):=by
 obtain⟨a1,n1,c1,a2,n2,c2,rfl,aH,aT⟩:=id fk
 obtain⟨_,_,e⟩:=aH.isSlice;obtain⟨rfl,rfl,rfl⟩:=Value.slice.inj e;clear e
 obtain⟨_,_,e⟩:=aT.isSlice;obtain⟨rfl,rfl,rfl⟩:=Value.slice.inj e;clear e
 clear fk
 have hs:=St.start g
 have aq:=G.le.refl g
 refine enter Tryz.func37 rfl Tryz.ntmps37 rfl ?_
 apply c_
 refine an rfl rfl (aR rfl hs rfl rfl ?_);clear hs;rintro bx g1 hs ah;obtain⟨aH,aT⟩:=cC ah aH aT
 obtain⟨g2,bR,aU,ah,aL⟩:=hs.a_ (i:=0) rfl;replace hs:=aU;clear aU;rw[←bR];obtain⟨aH,aT⟩:=cC ah aH aT
 have aC:=aL
 clear aL bR ah
 refine ba rfl ?_;apply aB;refine dx 1 [.z aC] (St.start _) rfl ?_
 refine an rfl rfl (ay PW aI rfl rfl rfl rfl rfl (Ff _ f _ ⟨_,_,_,_,_,_,rfl,aH,aT⟩) ?_);rintro g1 _ aN rfl;replace hs:=hs.call aN;have ah:=aN.le;obtain⟨aC,aH,aT⟩:=ef ah aC aH aT
 refine ba rfl ?_
 cases hv:valid f with
 |false=>
  rw[yY hv]
  refine aJ rfl rfl ?_
  refine aX rfl ?_
  exact aF (rT rfl rfl rfl (hs.ret rfl))
 |true=>
 rw[xy hv]
 have hB:=Hi hv
 have P_:=hB.n40;have P9:=hB.Vz
 refine aS rfl rfl ?_
 have l1:=dw hB.min;have l2:=dw hB.max
 have OF:=hB.min;have OG:=hB.max
 apply aE;apply au;apply aB
 apply bO hs (fj (eJ (fe []))) 11 [(10,4)] (by kernel_rfl) rfl
 ·refine Dm [[],[0]] [.e aC 0] (St.start _) (by kernel_rfl) rfl ?_
  refine aw (ak (js:=[(1,11)]) (by kernel_rfl) fun gd hf=>?_) ?_
  ·skip
   refine ai rfl ?_
   apply aj
   refine az rfl ?_
   refine ay qy aI rfl rfl rfl rfl rfl (fW (f.ck) _ OF) fun g' v h1 h2=>⟨g',rfl,h1,?_⟩
   exact h2
  refine aw (ak (js:=[(2,12)]) (by kernel_rfl) fun gd hf=>?_) ?_
  ·skip
   refine ai rfl ?_
   apply aj
   refine az rfl ?_
   refine cA (p:=eR) (q:=cX f.ck) rfl rfl rfl (by simp only[List.length_cons,List.length_nil,eR];omega) ?_
   exact⟨_,rfl,aZ.refl _,rfl⟩
  refine aw (ak (js:=[(3,13)]) (by kernel_rfl) fun gd hf=>?_) ?_
  ·skip
   refine ai rfl ?_
   apply aj
   refine az rfl ?_
   refine cA (p:=eR++cX f.ck) (q:=[46,46]) rfl rfl rfl (by simp only[List.length_append,List.length_cons,List.length_nil,eR];omega) ?_
   exact⟨_,rfl,aZ.refl _,rfl⟩
  refine Dm [[],[5]] [.e aC 1] (St.start _) (by kernel_rfl) rfl ?_
  refine aw (ak (js:=[(6,16)]) (by kernel_rfl) fun gd hf=>?_) ?_
  ·skip
   refine ai rfl ?_
   apply aj
   refine az rfl ?_
   refine ay qy aI rfl rfl rfl rfl rfl (fW (f.cu) _ OG) fun g' v h1 h2=>⟨g',rfl,h1,?_⟩
   exact h2
  refine aw (ak (js:=[(4,14),(7,17)]) (by kernel_rfl) fun gd hf=>?_) ?_
  ·skip
   refine ai rfl ?_;refine ai rfl ?_
   apply aj
   refine az rfl ?_
   refine cA (p:=eR++cX f.ck++[46,46]) (q:=cX f.cu) rfl rfl rfl (by simp only[List.length_append,List.length_cons,List.length_nil,eR];omega) ?_
   exact⟨_,rfl,aZ.refl _,rfl⟩
  refine aw (ak (js:=[(8,18)]) (by kernel_rfl) fun gd hf=>?_) ?_
  ·skip
   refine ai rfl ?_
   apply aj
   refine az rfl ?_
   refine cA (p:=eR++cX f.ck++[46,46]++cX f.cu) (q:=[10]) rfl rfl rfl (by simp only[List.length_append,List.length_cons,List.length_nil,eR];omega) ?_
   exact⟨_,rfl,aZ.refl _,rfl⟩
  exact Dy [[9,9]] (by kernel_rfl) rfl
 clear hs;intro g1 hs ah;obtain⟨aC,aH,aT⟩:=ef ah aC aH aT
 have zr:eR++cX f.ck++[46,46]++cX f.cu++[10]=kH f.ck f.cu++[10]:=by
  rw[rC];unfold nE;simp
 have Ja:=xv hB.min hB.max
 have Gs:tD f=kH f.ck f.cu++[10]++gj 0 f.steps++jY f.windows:=by unfold tD;simp
 rw[zr]
 generalize kH f.ck f.cu=M0 at*
 apply cf;apply aB;refine aX rfl ?_;apply aG
 have qz:=aH;have xx:=aT;have qE:=aC
 refine bS (fun m a' w=> ∃(k:Nat) (g4:G),w=g4.w∧St g g4 []∧G.le g1 g4∧k≤f.steps.length∧m=f.steps.length-k∧
   Fr 54 [] [(1,.pointer (some ⟨bx,0,none⟩)),(4,.string (bs (M0++[10]++gj 0 (f.steps.take k)))),(5,.int .i64 k)] a') f.steps.length (fun a' ha=>⟨0,g1,rfl,hs,G.le.refl _,Nat.zero_le _,rfl,ha.keep ⟨rfl,kV rfl (by simp[gj]),rfl,trivial⟩⟩) ?_
 clear hs aq aH aT aC
 rintro m a' _ ⟨k,g4,rfl,hs,j_,hk,rfl,eI⟩
 have aH:=qz.mono j_
 have aT:=xx.mono j_
 have aC:=qE.mono j_
 have jr:=uw (l:=f.steps.take k) (k:=0) (by rw[List.length_take];omega) fun s hs=>hB.steps s (List.mem_of_mem_take hs)
 rw[List.length_take]at jr
 have RT:(gj 0 (f.steps.take k)).length≤8000:=by omega
 revert a'
 apply cQ;apply aB;refine nK [.z aC] (St.start _) rfl ?_
 by_cases bh:k<f.steps.length
 ·refine aJ (b:=_) ?_ rfl ?_
  ·simp;omega
  have RU:dA f.steps (k:Int)=some f.steps[k]:=by simp[dA,bh]
  have dm:=y7 bh
  have RV:=hB.steps _ (List.getElem_mem bh)
  have VD:=rf (i:=k) (by omega) RV
  have W2:=vU RV
  have hle:=nF k f.steps[k]
  generalize f.steps[k]=s at*
  have VE:(jh k s).length≤200:=by rw[hle,List.length_append];omega
  apply aE;apply au;apply aB;apply aG;apply ar;refine Wm 5 [.z aC] (St.start _) rfl ?_
  refine an rfl rfl (aW T.ok rfl aH (y:=s) RU rfl rfl rfl rfl rfl rfl ?_)
  rintro bq pq ys aL ⟨xa,xn,xc,na,nn,nc,rfl,dz,dj⟩
  refine Wm 1 [.e aL 0] (St.start _) rfl ?_
  refine an rfl rfl (ay PX aI rfl rfl rfl rfl rfl (y6 k _ s _ ⟨_,rfl,_,_,_,_,_,_,rfl,dz,dj⟩ (by omega) RV) ?_);rintro g1 _ aN rfl;replace hs:=hs.call aN;have ah:=aN.le;obtain⟨j_,aC,aT⟩:=ef ah j_ aC aT
  refine an rfl rfl (cA (p:=M0++[10]++gj 0 (f.steps.take k)) (q:=jh k s) rfl rfl rfl (by simp only[List.length_append,List.length_singleton];omega) ?_)
  refine an rfl rfl (cA (p:=M0++[10]++gj 0 (f.steps.take k)++jh k s) (q:=[10]) rfl rfl rfl (by simp only[List.length_append,List.length_singleton];omega) ?_)
  refine Wp 1 rfl ?_;apply aD;apply bU;apply au;apply ar;refine Wp 3 rfl ?_;apply aD
  exact fun a ha=>⟨f.steps.length-(k+1),by omega,k+1,_,rfl,hs,j_,by omega,rfl,ha.keep ⟨rfl,kV rfl (by rw[dm];simp[List.append_assoc]),kI rfl (by rw[wr (by omega) (by omega)];omega),trivial⟩⟩
 ·refine aS (b:=_) ?_ rfl ?_
  ·simp;omega
  obtain rfl:k=f.steps.length:=by omega
  rw[List.take_length]at RT⊢
  apply bE;apply bK;apply bK;apply dc;apply au;apply aB;refine aX rfl ?_;apply aG
  have J_:=aT;have wV:=aC
  refine bS (fun m a' w=> ∃(k:Nat) (g5:G),w=g5.w∧St g g5 []∧G.le g4 g5∧k≤f.windows.length∧m=f.windows.length-k∧
    Fr 54 [] [(1,.pointer (some ⟨bx,0,none⟩)),(4,.string (bs (M0++[10]++gj 0 f.steps++jY (f.windows.take k)))),(6,.int .i64 k)] a') f.windows.length (fun a' ha=>⟨0,g4,rfl,hs,G.le.refl _,Nat.zero_le _,rfl,ha.keep ⟨rfl,kV rfl (by simp[jY]),rfl,trivial⟩⟩) ?_
  clear hs j_ aH aT aC bh hk
  rintro m a' _ ⟨k,g5,rfl,hs,j_,hk,rfl,eI⟩
  have aT:=J_.mono j_
  have aC:=wV.mono j_
  have RW:=vV (l:=f.windows.take k) fun w hw=>hB.J9 w (List.mem_of_mem_take hw)
  rw[List.length_take]at RW
  have VF:(jY (f.windows.take k)).length≤1000:=by omega
  revert a'
  apply cQ;apply aB;refine nK [.z aC] (St.start _) rfl ?_
  by_cases bh:k<f.windows.length
  ·refine aJ (b:=_) ?_ rfl ?_
   ·simp;omega
   have RU:dA f.windows (k:Int)=some f.windows[k]:=by simp[dA,bh]
   have dm:=Ax bh
   have Tf:=hB.J9 _ (List.getElem_mem bh)
   have VD:=nG Tf
   generalize f.windows[k]=w0 at*
   apply aE;apply au;apply aB;apply aG;apply ar;refine Wm 4 [.z aC] (St.start _) rfl ?_
   refine an rfl rfl (aW T.ok rfl aT (y:=w0) RU rfl rfl rfl rfl rfl rfl ?_)
   rintro bq pq ys aL rfl
   refine Wm 1 [.e aL 0] (St.start _) rfl ?_
   refine an rfl rfl (ay PY aI rfl rfl rfl rfl rfl (u_ w0 _ Tf) ?_);rintro g1 _ aN rfl;replace hs:=hs.call aN;have ah:=aN.le;replace j_:=G.le.trans j_ ah
   refine an rfl rfl (cA (p:=M0++[10]++gj 0 f.steps++jY (f.windows.take k)) (q:=gi w0) rfl rfl rfl (by simp only[List.length_append,List.length_singleton];omega) ?_)
   refine an rfl rfl (cA (p:=M0++[10]++gj 0 f.steps++jY (f.windows.take k)++gi w0) (q:=[10]) rfl rfl rfl (by simp only[List.length_append,List.length_singleton];omega) ?_)
   refine Wp 1 rfl ?_;apply aD;apply bU;apply au;apply ar;refine Wp 3 rfl ?_;apply aD
   exact fun a ha=>⟨f.windows.length-(k+1),by omega,k+1,_,rfl,hs,j_,by omega,rfl,ha.keep ⟨rfl,kV rfl (by rw[dm];simp[List.append_assoc]),kI rfl (by rw[wr (by omega) (by omega)];omega),trivial⟩⟩
  ·refine aS (b:=_) ?_ rfl ?_
   ·simp;omega
   obtain rfl:k=f.windows.length:=by omega
   rw[List.take_length]
   apply bE;apply bK;apply bK;apply dc;apply au;refine aX rfl ?_
   rw[←Gs]
   exact aF (rT rfl rfl rfl (hs.ret rfl))
end Go.Proofs.YtebobfdheanknaaGreatDoor
namespace Go.Proofs.YtebobfdheanknaaGreatDoor
open Go Go.K
set_option maxRecDepth 10000
attribute [local irreducible] W WL cT bu bX bA bB bD cW cG
set_option maxHeartbeats 1000000
structure O0(f:bV):Prop where
 some_:f.steps≠[]
 dB: ∀s∈f.steps,s.dB≠[]
 next: ∀s∈f.steps,∀m∈s.next,0≤m∧m<(f.steps.length:Int)
 back: ∀s∈f.steps,s.back<(f.steps.length:Int)
 Ur:SL f
theorem Et{l:List Int}{n m:Int}(h:m∈yg l n):m∈l∨m=n:=by
 unfold yg at h
 split at h
 ·exact .inl h
 ·rcases List.mem_append.1 h with h|h
  ·exact .inl (List.mem_of_mem_take h)
  ·rcases List.mem_cons.1 h with h|h
   ·exact .inr h
   ·exact .inl (List.mem_of_mem_drop h)
theorem Ch{f:bV}(hf:O0 f)(h:List bc){m:Int}(hm:m∈j3 f h):0≤m∧m<(f.steps.length:Int):=by
 have h0:0<f.steps.length:=List.length_pos_iff.2 hf.some_
 rcases List.eq_nil_or_concat h with rfl|⟨hi,x,rfl⟩
 ·obtain rfl:m=0:=List.mem_singleton.1 hm
  omega
 ·rw[List.concat_eq_append]at hm
  cases dm:dA f.steps x.step with
  |none=>rw[z' dm]at hm;cases hm
  |some s=>
   have hs:s∈f.steps:=List.mem_of_getElem? (qS dm).2.2
   rw[wS dm]at hm
   split at hm
   ·rename_i hc
    rw[Bool.and_eq_true,decide_eq_true_eq]at hc
    rcases Et hm with h|rfl
    ·exact hf.next s hs m h
    ·exact⟨hc.1,hf.back s hs⟩
   ·exact hf.next s hs m hm
def pL(f:bV)(c:Int)(out:List bc):Int:=(j3 f out).getD (aO c (j3 f out).length).toNat 0
def Em(f:bV)(waf idn time c:Int)(out:List bc):bc:=
 {yn ((dA f.steps (pL f c out)).getD jW) (((dA f.steps (pL f c out)).getD jW).dB.headD 0) (idn+out.length) waf (pL f c out) (time+10*out.length)with til:=IntKind.i64.wrap (time+10*out.length+5)}
def uU(f:bV)(waf idn time:Int):List Int→Nat→List bc→List bc
 |[],_,out=>out
 |_::_,0,out=>out
 |c::cs,n+1,out=>if j3 f out=[]then out else uU f waf idn time cs n (out++[Em f waf idn time c out])
theorem Ci(f:bV)(waf idn time:Int)(cs:List Int)(out:List bc):uU f waf idn time cs 0 out=out:=by cases cs<;>rfl
theorem Eu{f:bV}(hf:O0 f)(c:Int)(out:List bc)(fu:j3 f out≠[]): ∃s tool,(j3 f out)[(aO c (j3 f out).length).toNat]? =some (pL f c out)∧dA f.steps (pL f c out)=some s∧s.dB[0]? =some tool∧
  ∀waf idn time,Em f waf idn time c out={yn s tool (idn+out.length) waf (pL f c out) (time+10*out.length)with til:=IntKind.i64.wrap (time+10*out.length+5)}:=by
 have hlen:0<(j3 f out).length:=List.length_pos_iff.2 fu
 obtain⟨h1,h2⟩:=dq (c:=c) (n:=(j3 f out).length) (by omega)
 have bh:(aO c (j3 f out).length).toNat<(j3 f out).length:=by omega
 have e:(j3 f out)[(aO c (j3 f out).length).toNat]? =some (pL f c out):=by
  unfold pL
  rw[List.getElem?_eq_getElem bh,List.getD_eq_getElem?_getD,List.getElem?_eq_getElem bh];rfl
 obtain⟨h3,h4⟩:=Ch hf out (List.mem_of_getElem? e)
 have rW:(pL f c out).toNat<f.steps.length:=by omega
 have dm:dA f.steps (pL f c out)=some f.steps[(pL f c out).toNat]:=(if_neg (by omega)).trans (List.getElem?_eq_getElem rW)
 have ht:=hf.dB _ (List.getElem_mem rW)
 refine⟨_,(f.steps[(pL f c out).toNat]).dB.headD 0,e,dm,?_,fun waf idn time=>?_⟩
 ·generalize f.steps[(pL f c out).toNat].dB=l at ht
  cases l with
  |nil=>exact absurd rfl ht
  |cons x l=>rfl
 ·unfold Em;rw[dm];rfl
abbrev rF(ad:Option Addr)(c:Nat)(xs:List bc):cV:=.row 54 19 (.slice ad xs.length c) xs.length (fl xs)
theorem Es(v u:Value)(f:bV)(cs:List Int)(n:Nat)(waf idn time:Int)(g:G)(dI:fA g v f)(aH:Rs g u cs)(hf:O0 f)(mG: ∀c∈cs,mH c)(hn:n≤1000)(hi:0≤idn∧idn≤1000000)(ht:0≤time∧time≤1000000):
  CallsIn Wd 0 Tryz.prog 12 #[v,u,.int .i64 n,.int .i64 waf,.int .i64 idn,.int .i64 time] g.w (cR g fun g' r=>Rs g' r (uU f waf idn time cs n [])):=by
 have hs:=(St.start g).gI 54 19 none
 have aq:=G.le.refl g
 obtain⟨a,c,rfl⟩:=aH.isSlice
 obtain⟨_,_,fY⟩:=aH.oL
 unfold maxLen at fY
 have QI:=dI
 obtain⟨a1,n1,c1,a2,n2,c2,rfl,aT,bT⟩:=QI
 clear aT bT
 refine enter Tryz.func12 rfl Tryz.ntmps12 rfl ?_
 apply c_
 refine an rfl rfl (aR rfl hs rfl rfl ?_);clear hs;rintro b6 g1 hs ah;obtain⟨aq,aH,dI⟩:=ef ah aq aH dI
 obtain⟨g2,bR,aU,ah,aL⟩:=hs.a_ (i:=0) rfl;replace hs:=aU;clear aU;rw[←bR];obtain⟨aq,aH,dI⟩:=ef ah aq aH dI
 have aC:=aL;clear aL
 replace hs:St g _ [rF none 0 []]:=hs
 refine ba rfl ?_;refine aX rfl ?_;apply aB;refine aX rfl ?_;apply aG
 refine bS (fun m a' w=> ∃(ad:Option Addr) (c8:Nat) (xs:List bc) (g':G),w=g'.w∧St g g' [rF ad c8 xs]∧G.le g g'∧fA g' (.agg #[.int .i64 f.ck,.int .i64 f.cu,.slice a1 n1 c1,.slice a2 n2 c2]) f∧EP g' b6 0 [.int .i64 f.ck,.int .i64 f.cu,.slice a1 n1 c1,.slice a2 n2 c2]∧Rs g' (.slice a cs.length c) cs∧xs.length≤cs.length∧xs.length≤n∧uU f waf idn time (cs.drop xs.length) (n-xs.length) xs=uU f waf idn time cs n []∧m=cs.length-xs.length∧
   Fr 67 [] [(1,.slice a cs.length c),(2,.int .i64 n),(3,.int .i64 waf),(4,.int .i64 idn),(5,.int .i64 time),(6,.pointer (some ⟨b6,0,none⟩)),(13,.slice ad xs.length c8),(14,.int .i64 (xs.length:Nat))] a') cs.length
  (fun a' ha=>⟨none,0,[],_,rfl,hs,aq,dI,aC,aH,Nat.zero_le _,Nat.zero_le _,rfl,rfl,ha.keep (by(repeat (first|exact trivial|refine⟨rfl,?_⟩)))⟩) ?_
 (repeat clear hs);(repeat clear aH);(repeat clear aq);(repeat clear aC);(repeat clear dI)
 rintro m a' _ ⟨ad,c8,xs,g',rfl,hs,aq,dI,aC,aH,Ws,Sm,hq,rfl,eI⟩
 revert a'
 apply cQ;apply aB;refine cP 5 rfl ?_
 cases h1:decide ((xs.length:Int)<(cs.length:Int))with
 |false=>
  have h1:=of_decide_eq_false h1
  refine ba rfl ?_
  refine aS rfl rfl ?_
  rw[List.drop_of_length_le (by omega)]at hq
  obtain⟨g8,xD,qO,ah,pk⟩:=hs.cL (α:=bc) (i:=0) rfl (cO.fl _ _)
  rw[←xD];(repeat clear hs);have hs:=qO;clear qO
  apply bE;apply bK;apply bK;apply dc;apply au;refine aX rfl ?_
  exact aF (aV rfl rfl (hs.ret (by rw[←hq];exact pk)))
 |true=>
  have h1:=of_decide_eq_true h1
  refine ba rfl ?_
  cases h2:decide ((xs.length:Int)<(n:Int))with
  |false=>
   have h2:=of_decide_eq_false h2
   refine aS rfl rfl ?_
   rw[show n-xs.length=0 from by omega,Ci]at hq
   obtain⟨g8,xD,qO,ah,pk⟩:=hs.cL (α:=bc) (i:=0) rfl (cO.fl _ _)
   rw[←xD];(repeat clear hs);have hs:=qO;clear qO
   apply bE;apply bK;apply bK;apply dc;apply au;refine aX rfl ?_
   exact aF (aV rfl rfl (hs.ret (by rw[←hq];exact pk)))
  |true=>
   have h2:=of_decide_eq_true h2
   refine aJ rfl rfl ?_
   have bh:xs.length<cs.length:=by omega
   rw[List.drop_eq_getElem_cons bh,show n-xs.length=(n-(xs.length+1))+1 from by omega]at hq
   have oJ:=mG _ (List.getElem_mem bh)
   have SM:cs[xs.length]? =some cs[xs.length]:=List.getElem?_eq_getElem bh
   generalize cs[xs.length]=ch at hq oJ SM
   obtain⟨gf,Nh,H_,bN,td⟩:=hs.Jc (α:=bc) (i:=0) rfl (cO.fl _ _)
   rw[←Nh]
   have oh:=hs;(repeat clear hs);have hs:=St.start gf
   have Us:=aq;have Ut:=dI;have Uu:=aC;have Uv:=aH
   have ah:=H_;obtain⟨aq,aC,aH,dI⟩:=dE ah aq aC aH dI
   apply aE;apply au;apply aB;apply aG;refine dx 2 [.z aC] (St.start _) rfl ?_
   refine an rfl rfl (ay PE aI rfl rfl rfl rfl rfl (Cg _ _ f xs _ dI bN (by omega) hf.Ur) ?_);rintro g1 _ aN dj;replace hs:=hs.call aN;have ah:=aN.le;obtain⟨aq,aC,aH,dI⟩:=dE ah aq aC aH dI
   obtain⟨a5,c5,rfl⟩:=dj.isSlice
   refine ba rfl ?_;apply aB;refine aX rfl ?_
   by_cases fu:j3 f xs=[]
   ·refine aJ (b:=((j3 f xs).length:Int)==0) (by simp[fu]) rfl ?_
    rw[uU,if_pos fu]at hq
    refine aX rfl ?_
    obtain⟨g7,BZ,uM⟩:=td _ hs.mS
    rw[←BZ]
    (repeat clear hs)
    have hs:=oh.call uM
    clear oh
    obtain⟨g8,xD,qO,ah,pk⟩:=hs.cL (α:=bc) (i:=0) rfl (cO.fl _ _)
    rw[←xD];(repeat clear hs);have hs:=qO;clear qO
    skip
    exact aF (aV rfl rfl (hs.ret (by rw[←hq];exact pk)))
   ·refine aS (b:=((j3 f xs).length:Int)==0) (by simp[fu]) rfl ?_
    rw[uU,if_neg fu]at hq
    obtain⟨s,tool,h3,dm,Ni,hP⟩:=Eu hf ch xs fu
    have hlen:0<(j3 f xs).length:=List.length_pos_iff.2 fu
    obtain⟨h4,h5⟩:=dq (c:=ch) (n:=(j3 f xs).length) (by omega)
    have SN:=hP waf idn time
    generalize Em f waf idn time ch xs=P0 at hq SN
    generalize pL f ch xs=st at*
    generalize Wt:j3 f xs=Uw at*
    obtain⟨b0,p0,ys,rfl,mg,hx⟩:=aH.at (i:=xs.length) SM
    obtain rfl:ys=[.int .i64 ch]:=hx
    obtain⟨b5,p5,ys,rfl,vy,hx⟩:=dj.at h3
    obtain rfl:ys=[.int .i64 st]:=hx
    apply aE;apply au;apply aB
    apply ed (gE (.e (.int .i64 (idn+(xs.length:Nat)))::fj (gE (eJ (.e (.int .i64 (10*(xs.length:Nat))):: .e (.int .i64 (time+10*(xs.length:Nat)))::fe (.f (B_ (G.dr _).w.heap.size (bW gF) 54)::[])))))) 23 [(21,57),(22,16)] (by kernel_rfl)
    ·refine Dm [[],[],[],[2]] [.z aC] hs (by kernel_rfl) rfl ?_
     refine aw (ak (js:=[(1,37),(3,39)]) (by kernel_rfl) fun gd hf=>ai rfl (ai rfl (aj (az rfl (aM _ T.ok rfl ⟨gd,rfl,aZ.refl _,congrArg (Value.int .i64) (by rw[wr (by omega) (by omega)])⟩))))) ?_
     refine Dm [[],[],[],[]] [] hs (by kernel_rfl) rfl ?_
     refine aw (ak (js:=[(7,43),(8,44)]) (by kernel_rfl) fun gd hf=>ai rfl (ai rfl (aj (az rfl (fT T.ok rfl rfl rfl (by omega) (by omega) rfl rfl rfl ⟨gd,rfl,aZ.refl _,rfl⟩))))) ?_
     refine Dm [[9],[],[11],[10,12]] [.e mg 0,.c PF fun g' _=>GH ch (Uw.length:Nat) g' oJ (by omega)] hs (by kernel_rfl) rfl ?_
     refine aw (ak (js:=[(6,42),(13,49)]) (by kernel_rfl) fun gd hf=>ai rfl (ai rfl (aj (az rfl (fT T.ok rfl rfl rfl h4 (by omega) rfl rfl rfl ⟨gd,rfl,aZ.refl _,rfl⟩))))) ?_
     refine Dm [[14],[],[],[17]] [.e vy 0] hs (by kernel_rfl) rfl ?_
     refine aw (ak (js:=[(18,54)]) (by kernel_rfl) fun gd hf=>ai rfl (aj (az rfl (aM _ T.ok rfl ⟨gd,rfl,aZ.refl _,congrArg (Value.int .i64) (by rw[wr (by omega) (by omega)])⟩)))) ?_
     refine aw (ak (js:=[(16,52),(19,55)]) (by kernel_rfl) fun gd hf=>ai rfl (ai rfl (aj (az rfl (aM _ T.ok rfl ⟨gd,rfl,aZ.refl _,congrArg (Value.int .i64) (by rw[wr (by omega) (by omega)])⟩))))) ?_
     refine Dm [[0,4,5,15,20]] [.c PB fun g' h=>Jq _ f s tool (idn+(xs.length:Nat)) waf st (time+10*(xs.length:Nat)) g' (dI.mono h) dm Ni] hs (by kernel_rfl) rfl ?_
     refine aw (ak (js:=[]) (by kernel_rfl) fun gd hf=>aj (az rfl (aK T.ok rfl (St.start gd) rfl rfl fun b g' iS hle=>⟨g',rfl,iS.mS,b,rfl,Nat.le_trans hf.below.size (iS.own 0 _ rfl).1,(iS.own 0 _ rfl).2⟩))) ?_
     exact fJ
    intro g1 aN;refine ai rfl (aY fun v6 h6=>aj ?_)
    obtain⟨Sd,rfl,uS⟩:=h6
    have mK:=hs
    (repeat clear hs)
    have hs:=mK.dr.gJ aN uS;have ah:=(G.bJ _).trans aN.le;obtain⟨aq,aC,aH,dI⟩:=dE ah aq aC aH dI
    clear mK uS aN
    skip
    refine bg rfl (aA T.ok 0 rfl hs rfl rfl rfl rfl rfl rfl rfl rfl rfl ?_);replace hs:=hs;rintro g1 hs ah;obtain⟨aq,aC,aH,dI⟩:=dE ah aq aC aH dI
    apply cf;refine dx 4 [.o 0] hs rfl ?_
    refine bg rfl (aA T.ok 0 rfl hs rfl rfl rfl rfl rfl rfl rfl rfl rfl ?_);replace hs:=hs;rintro g1 hs ah;obtain⟨aq,aC,aH,dI⟩:=dE ah aq aC aH dI
    obtain⟨g2,bR,aU,ah,aL⟩:=hs.a_ (i:=0) rfl;replace hs:=aU;clear aU;rw[←bR];obtain⟨aq,aC,aH,dI⟩:=dE ah aq aC aH dI
    have aP:EP g2 Sd 0 (bW P0):=by rw[SN];exact aL
    clear aL
    apply cf;apply ar;refine Wm 2 [.z aP] (St.start _) rfl ?_
    clear bN dj dI aC aH mg vy
    obtain⟨g7,BZ,uM⟩:=td _ hs.mS
    rw[←BZ]
    (repeat clear hs)
    have hs:=oh.call uM
    clear oh
    have ah:=uM.le
    have dI:=Ut.mono ah;have aC:=Uu.mono ah;have aH:=Uv.mono ah
    replace aq:=Us.trans ah
    skip
    refine an rfl rfl (bj T.ok rfl hs (vs:=[(0,fv P0)]) (cells:=bW P0) rfl rfl rfl rfl rfl rfl (by decide) (by decide) (by kernel_rfl) rfl ?_);rintro bl gl hs ah;obtain⟨aq,aC,aH,dI⟩:=dE ah aq aC aH dI
    skip
    refine an rfl rfl (b_ T.ok 1 rfl hs rfl rfl rfl rfl rfl rfl rfl (by decide) rfl (Src.gK (hs.own 0 _ rfl).1).2 (by simp[bW,Value.oneCell']) (by show(xs.length+1)*160≤_;omega) (by show xs.length+1≤maxLen;unfold maxLen;omega) ?_);rintro a6 c6 g10 hs ah;obtain⟨aq,aC,aH,dI⟩:=dE ah aq aC aH dI
    have qD:fl (xs++[P0])=fl xs++bW P0:=by rw[lr];exact congrArg (fl xs++ ·) (List.append_nil _)
    have wT:(xs++[P0]).length=xs.length+1:=by simp
    replace hs:St g g10 [rF a6 c6 (xs++[P0])]:=by unfold rF;rw[qD,wT];exact hs.drop 0
    refine Wp 1 rfl ?_;apply aD;apply bU;apply au;apply ar;refine Wp 3 rfl ?_;apply aD
    exact fun a ha=>⟨cs.length-(xs.length+1),by omega,a6,c6,xs++[P0],_,rfl,hs,aq,dI,aC,aH,by omega,by omega,by rw[wT];exact hq,by rw[wT],ha.keep ⟨rfl,rfl,rfl,rfl,rfl,rfl,kV rfl (by rw[wT]),kI rfl (by rw[wr (by omega) (by omega),wT];omega),trivial⟩⟩
end Go.Proofs.YtebobfdheanknaaGreatDoor

/- Parts of the proof, from: The walks through package flow's tests of flows. -/
import Derived.Test.YtkpojaffabjibaaGreatDoorYd
import Derived.Lib.ItoaNum
import Derived.Lib.AtoiAll
import Derived.Lib.SplitLaws
import Derived.Lib.CutLaws
import Derived.Lib.AppendIntMem
import Derived.Test.YtkpojaffabjibaaGreatDoorShelfP
namespace Go.Proofs.YtkpojaffabjibaaGreatDoor
open Go Go.K Tryz
attribute [local irreducible] W WL cQ aP bG aR aQ aS cK ct
set_option maxRecDepth 10000
theorem lE(n lo hi:Int)(g:G):cN prog 226 #[vI n,vI lo,vI hi] g fun _ v=>v= .bool (within n lo hi):=by
 have hs:=St.start g;refine enter func226 rfl ntmps226 rfl<|aD rfl<|ck 4 rfl<|cI (want:=true) (x:=decide (n≤hi)) 3 bJ rfl rfl rfl rfl (.inl ⟨rfl,rfl,rfl⟩) rfl rfl rfl rfl (fun hb Q' fp=>?_) (fun g' hf=>?_)
 ·exact Wp 3 rfl<|an<|fun a ha=>fp _ a (bW.refl _) (ha.kp rfl)
 replace hs:=hs.call hf;exact aF rfl<|au (cg rfl hs rfl)
theorem BG(l:List Int)(lo hi:Int)(k:Nat)(h:k<l.length):
  (if k=0 then ascending l lo hi else kZ lo hi (l.getD (k-1) 0) (l.drop k))=(within l[k] lo hi&&(decide (k=0)||decide (l.getD (k-1) 0<l[k]))&&kZ lo hi l[k] (l.drop (k+1))):=by
 by_cases hk:k=0
 ·subst hk;cases l with
  |nil=>simp at h
  |cons n r=>simp[ascending]
 rw[if_neg hk,aa7 h];simp[kZ,hk]
theorem xe(v:Value)(l:List Int)(lo hi:Int)(g:G)(hl:Rs g v l):
  cN prog 267 #[v,vI lo,vI hi] g fun _ r=>r= .bool (ascending l lo hi):=by
 obtain⟨a,c,rfl⟩:=hl.isSlice;have hlen:=hl.ef;unfold maxLen at hlen;have hs:=St.start g;refine enter func267 rfl ntmps267 rfl<|aD rfl<|ak<|aD rfl<|aw ?_;refine aZ (fun m a' w=> ∃(k:Nat) (g':G),w=g'.w∧St g g' []∧G.le g g'∧k≤l.length∧m=l.length-k∧((if k=0 then ascending l lo hi else kZ lo hi (l.getD (k-1) 0) (l.drop k))=ascending l lo hi)∧
  Fr 35 [] [(0,.slice a l.length c),(1,vI lo),(2,vI hi),(9,.slice a l.length c),(10,vI l.length),(11,vI k)] a') l.length (fun a' ha=>⟨0,g,rfl,hs,G.le.refl g,aar _,rfl,by simp,ha.kp rfl⟩) ?_
 clear hs;rintro m a' _ ⟨k,g',rfl,hs,aj,hk,rfl,dt,dT⟩;revert a';refine bT<|aD rfl<|ak ?_;by_cases aV:k<l.length
 ·refine aG (b:=decide ((k:Int)<(l.length:Int))) (by simp;omega) rfl ?_;rw[BG l lo hi k aV]at dt;refine ar<|ai<|ak<|aw<|ck 1 rfl<|fP (y:=l[k]) (hl.mono aj) (by simp[dq,aV]) rfl ?_;rintro b p ys aK rfl;refine dE 1 [.e aK 0] rfl<|aF rfl<|ck 3 rfl<|jN rfl (lE _ _ _ _) hs fun g1 hs ag=>?_;replace aj:=G.le.trans aj ag;refine Wp 2 rfl<|cI (want:=false) (x:=decide (0<(k:Int))&&decide (l[k]≤l.getD (k-1) 0)) 11 bJ rfl rfl rfl rfl (.inr ⟨rfl,rfl,rfl⟩) rfl rfl rfl rfl (fun hb Q' fp=>?_) (fun g' hf=>?_)
  ·refine Wp 3 rfl<|cI (want:=true) (x:=decide (l[k]≤l.getD (k-1) 0)) 7 bJ rfl rfl rfl rfl (.inl ⟨rfl,rfl,rfl⟩) rfl rfl rfl rfl (fun hb Q' fp=>?_) (fun g' hf=>?_)
   ·have C9:0<k:=by simpa using hb
    refine Wp 4 rfl<|fP (y:=l[k-1]) (hl.mono aj) (bM (by rw[wq];omega) (by omega)) rfl ?_;rintro b p ys aK rfl;refine dE 1 [.e aK 0] rfl<|Wp 1 rfl<|an ?_;have e:l.getD (k-1) 0=l[k-1]:=by simp[show k-1<l.length from by omega]
    rw[e]at fp;exact fun a ha=>fp _ a (bW.refl _) (ha.kp rfl)
   exact an<|fun a ha=>fp _ a hf (ha.kp rfl)
  replace hs:=hs.call hf;have ag:=hf.le;replace aj:=G.le.trans aj ag;apply bE;by_cases oq:((!within l[k] lo hi)||(decide (0<(k:Int))&&decide (l[k]≤l.getD (k-1) 0)))=true
  ·refine aG oq rfl<|aD rfl<|au<|cg rfl hs ?_;rw[←dt]
   have:(within l[k] lo hi&&(decide (k=0)||decide (l.getD (k-1) 0<l[k]))&&kZ lo hi l[k] (List.drop (k+1) l))=false:=by
    simp only[abz,ab8,aaA,decide_eq_true_eq]at oq;rcases oq with h|⟨h1,h2⟩
    ·simp[h]
    have e1:decide (k=0)=false:=by simp;omega
    have e2:decide (l.getD (k-1) 0<l[k])=false:=by simp only[decide_eq_false_iff_not];omega
    rw[e1,e2];simp
   rw[this]
  refine bg (abS.2 oq) rfl<|ar<|aX<|ai<|ah<|Wp 2 rfl<|an<|fun a ha=>⟨l.length-(k+1),by omega,k+1,_,rfl,hs,aj,by omega,rfl,?_,ha.keep ⟨rfl,rfl,rfl,rfl,rfl,kW rfl,trivial⟩⟩
  rw[←dt];simp only[Bool.not_eq_true,acF,adm,acE,decide_eq_false_iff_not]at oq;have e:l.getD (k+1-1) 0=l[k]:=by simp[aV]
  rw[if_neg (by omega),e,oq.1];have h2:(decide (k=0)||decide (l.getD (k-1) 0<l[k]))=true:=by simp only[abz,decide_eq_true_eq];rcases oq.2 with h|h<;>omega
  rw[h2];simp
 refine bg (b:=decide ((k:Int)<(l.length:Int))) (by simp;omega) rfl<|aJ<|aM<|aM<|b_<|ai<|aD rfl ?_;obtain rfl:k=l.length:=by omega
 refine au<|cg rfl hs ?_;rw[←dt];by_cases h0:l.length=0
 ·rw[if_pos h0,aa' h0];rfl
 rw[if_neg h0];simp[kZ]
theorem vj(v:Value)(f:aU)(g:G)(hf:eQ g v f):cN prog 225 #[v] g fun _ r=>r= .bool (dV f):=by
 obtain⟨a1,n1,c1,a2,n2,c2,rfl,h1,h2⟩:=hf;have hs:=St.start g;have aj:=G.le.refl g;refine enter func225 rfl ntmps225 rfl<|cO<|nX hs rfl fun b1 g1 hs ag=>aF rfl<|jd 4 [.o 0] hs rfl<|cI (want:=true) (x:=decide (f.bS≤f.cd)) 5 bJ rfl rfl rfl rfl (.inl ⟨rfl,rfl,rfl⟩) rfl rfl rfl rfl (fun hb Q' fp=>?_) (fun g' hf=>?_)
 ·exact Wm 5 [.o 0,.o 0] hs rfl<|an<|fun a ha=>fp _ a (bW.refl _) (ha.kp rfl)
 replace hs:=hs.call hf;refine Wp 1 rfl<|cI (want:=true) (x:=decide (f.cd≤10000)) 3 bJ rfl rfl rfl rfl (.inl ⟨rfl,rfl,rfl⟩) rfl rfl rfl rfl (fun hb Q' fp=>?_) (fun g' hf=>?_)
 ·exact Wm 3 [.o 0] hs rfl<|an<|fun a ha=>fp _ a (bW.refl _) (ha.kp rfl)
 replace hs:=hs.call hf;exact aF rfl<|au (cg rfl hs rfl)
theorem gV(w:cz)(n:Int)(g:G)(h1:0≤n)(h2:n≤9223372036854775807):
  cN prog 230 #[.agg #[vI w.src,vI w.dst,vI w.dv],vI n] g fun _ r=>r= .bool (de w n):=by
 have hs:=St.start g;have hn:IntKind.i64.wrap (n-1)=n-1:=wq;refine enter func230 rfl ntmps230 rfl<|cO<|nX hs rfl fun b1 g1 hs ag=>aF rfl<|jd 4 [.o 0] hs rfl ?_;rw[hn];refine jN rfl (lE _ _ _ _) hs fun g1 hs ag=>Wp 1 rfl<|cI (want:=true) (x:=within w.dst 0 (n-1)) 5 bJ rfl rfl rfl rfl (.inl ⟨rfl,rfl,rfl⟩) rfl rfl rfl rfl (fun hb Q' fp=>?_) (fun g' hf=>?_)
 ·refine Wm 4 [.o 0] hs rfl ?_;rw[hn];refine d_ rfl (lE _ _ _ _) ?_;rintro g1 _ aH rfl;replace hs:=hs.call aH;have ag:=aH.le;exact an<|fun a ha=>fp _ a aH (ha.kp rfl)
 replace hs:=hs.call hf;refine Wp 1 rfl<|cI (want:=true) (x:=w.src !=w.dst) 5 bJ rfl rfl rfl rfl (.inl ⟨rfl,rfl,rfl⟩) rfl rfl rfl rfl (fun hb Q' fp=>?_) (fun g' hf=>?_)
 ·exact Wm 5 [.o 0,.o 0] hs rfl<|an<|fun a ha=>fp _ a (bW.refl _) (ha.kp rfl)
 replace hs:=hs.call hf;refine Wp 1 rfl<|cI (want:=true) (x:=within w.dv 0 1000000) 3 bJ rfl rfl rfl rfl (.inl ⟨rfl,rfl,rfl⟩) rfl rfl rfl rfl (fun hb Q' fp=>?_) (fun g' hf=>?_)
 ·refine Wm 2 [.o 0] hs rfl<|d_ rfl (lE _ _ _ _) ?_;rintro g1 _ aH rfl;replace hs:=hs.call aH;have ag:=aH.le;exact an<|fun a ha=>fp _ a aH (ha.kp rfl)
 replace hs:=hs.call hf;exact aF rfl<|au (cg rfl hs rfl)
theorem xf(v:Value)(s:Step)(n:Int)(g:G)(hv:kz g v s)(h1:0≤n)(h2:n≤9223372036854775807):
  cN prog 229 #[v,vI n] g fun _ r=>r= .bool (bO s n):=by
 obtain⟨cs,rfl,a1,n1,c1,a2,n2,c2,rfl,N_,Lp⟩:=hv;obtain⟨_,_,e⟩:=N_.isSlice;obtain⟨rfl,rfl,rfl⟩:=aaO e;clear e;obtain⟨_,_,e⟩:=Lp.isSlice;obtain⟨rfl,rfl,rfl⟩:=aaO e;clear e;have hs:=St.start g;have aj:=G.le.refl g;have hn:IntKind.i64.wrap (n-1)=n-1:=wq;refine enter func229 rfl ntmps229 rfl<|cO<|nX hs rfl fun b1 g1 hs ag=>?_;replace aj:=G.le.trans aj ag;refine aF rfl<|jd 4 [.o 0] hs rfl<|cI (want:=true) (x:=s.dv==0) 3 bJ rfl rfl rfl rfl (.inl ⟨rfl,rfl,rfl⟩) rfl rfl rfl rfl (fun hb Q' fp=>?_) (fun g' hf=>?_)
 ·exact Wm 3 [.o 0] hs rfl<|an<|fun a ha=>fp _ a (bW.refl _) (ha.kp rfl)
 replace hs:=hs.call hf;have ag:=hf.le;replace aj:=G.le.trans aj ag;refine Wp 1 rfl<|cI (want:=false) (x:=within s.back 0 (n-1)&&within s.dv 1 9) 10 bJ rfl rfl rfl rfl (.inr ⟨rfl,rfl,rfl⟩) rfl rfl rfl rfl (fun hb Q' fp=>?_) (fun g' hf=>?_)
 ·refine Wm 4 [.o 0] hs rfl ?_;rw[hn];refine d_ rfl (lE _ _ _ _) ?_;rintro g1 _ aH rfl;replace hs:=hs.call aH;have ag:=aH.le;replace aj:=G.le.trans aj ag;refine Wp 1 rfl<|cI (want:=true) (x:=within s.dv 1 9) 3 bJ rfl rfl rfl rfl (.inl ⟨rfl,rfl,rfl⟩) rfl rfl rfl rfl (fun hb Q' fp=>?_) (fun g' hf=>?_)
  ·refine Wm 2 [.o 0] hs rfl<|d_ rfl (lE _ _ _ _) ?_;rintro g1 _ aH rfl;replace hs:=hs.call aH;have ag:=aH.le;replace aj:=G.le.trans aj ag;exact an<|fun a ha=>fp _ a aH (ha.kp rfl)
  exact an fun a ha=>fp _ a (aH.trans hf) (ha.kp rfl)
 replace hs:=hs.call hf;have ag:=hf.le;replace aj:=G.le.trans aj ag;refine aF rfl<|jd 3 [.o 0] hs rfl<|jN rfl (lE _ _ _ _) hs fun g1 hs ag=>?_;replace aj:=G.le.trans aj ag;refine Wp 1 rfl<|cI (want:=true) (x:=decide ((s.next.length:Int)≤4)) 4 bJ rfl rfl rfl rfl (.inl ⟨rfl,rfl,rfl⟩) rfl rfl rfl rfl (fun hb Q' fp=>?_) (fun g' hf=>?_)
 ·exact Wm 4 [.o 0] hs rfl<|an<|fun a ha=>fp _ a (bW.refl _) (ha.kp rfl)
 replace hs:=hs.call hf;have ag:=hf.le;replace aj:=G.le.trans aj ag;refine aF rfl<|ck 2 rfl<|cI (want:=true) (x:=within (↑s.cZ.length) 1 8&&decide ((s.next.length:Int)≤4)) 1 bJ rfl rfl rfl rfl (.inl ⟨rfl,rfl,rfl⟩) rfl rfl rfl rfl (fun hb Q' fp=>?_) (fun g' hf=>?_)
 ·exact Wp 1 rfl<|an<|fun a ha=>fp _ a (bW.refl _) (ha.kp rfl)
 replace hs:=hs.call hf;have ag:=hf.le;replace aj:=G.le.trans aj ag;refine Wp 1 rfl<|cI (want:=true) (x:=within s.du 1 1000000) 3 bJ rfl rfl rfl rfl (.inl ⟨rfl,rfl,rfl⟩) rfl rfl rfl rfl (fun hb Q' fp=>?_) (fun g' hf=>?_)
 ·refine Wm 2 [.o 0] hs rfl<|d_ rfl (lE _ _ _ _) ?_;rintro g1 _ aH rfl;replace hs:=hs.call aH;have ag:=aH.le;replace aj:=G.le.trans aj ag;exact an<|fun a ha=>fp _ a aH (ha.kp rfl)
 replace hs:=hs.call hf;have ag:=hf.le;replace aj:=G.le.trans aj ag;refine Wp 1 rfl<|cI (want:=true) (x:=ascending s.cZ 0 59) 3 bJ rfl rfl rfl rfl (.inl ⟨rfl,rfl,rfl⟩) rfl rfl rfl rfl (fun hb Q' fp=>?_) (fun g' hf=>?_)
 ·refine Wm 2 [.o 0] hs rfl<|d_ rfl (xe _ s.cZ _ _ _ (N_.mono aj)) ?_;rintro g1 _ aH rfl;replace hs:=hs.call aH;have ag:=aH.le;replace aj:=G.le.trans aj ag;exact an<|fun a ha=>fp _ a aH (ha.kp rfl)
 replace hs:=hs.call hf;have ag:=hf.le;replace aj:=G.le.trans aj ag;refine Wp 1 rfl<|cI (want:=true) (x:=ascending s.next 0 (n-1)) 5 bJ rfl rfl rfl rfl (.inl ⟨rfl,rfl,rfl⟩) rfl rfl rfl rfl (fun hb Q' fp=>?_) (fun g' hf=>?_)
 ·refine Wm 4 [.o 0] hs rfl ?_;rw[hn];refine d_ rfl (xe _ s.next _ _ _ (Lp.mono aj)) ?_;rintro g1 _ aH rfl;replace hs:=hs.call aH;have ag:=aH.le;exact an<|fun a ha=>fp _ a aH (ha.kp rfl)
 replace hs:=hs.call hf;have ag:=hf.le;refine Wp 1 rfl<|cI (want:=true) (x:=decide (1≤s.min)) 3 bJ rfl rfl rfl rfl (.inl ⟨rfl,rfl,rfl⟩) rfl rfl rfl rfl (fun hb Q' fp=>?_) (fun g' hf=>?_)
 ·exact Wm 3 [.o 0] hs rfl<|an<|fun a ha=>fp _ a (bW.refl _) (ha.kp rfl)
 replace hs:=hs.call hf;have ag:=hf.le;refine Wp 1 rfl<|cI (want:=true) (x:=decide (s.min≤s.max)) 5 bJ rfl rfl rfl rfl (.inl ⟨rfl,rfl,rfl⟩) rfl rfl rfl rfl (fun hb Q' fp=>?_) (fun g' hf=>?_)
 ·exact Wm 5 [.o 0,.o 0] hs rfl<|an<|fun a ha=>fp _ a (bW.refl _) (ha.kp rfl)
 replace hs:=hs.call hf;have ag:=hf.le;refine Wp 1 rfl<|cI (want:=true) (x:=decide (s.max≤10000)) 3 bJ rfl rfl rfl rfl (.inl ⟨rfl,rfl,rfl⟩) rfl rfl rfl rfl (fun hb Q' fp=>?_) (fun g' hf=>?_)
 ·exact Wm 3 [.o 0] hs rfl<|an<|fun a ha=>fp _ a (bW.refl _) (ha.kp rfl)
 replace hs:=hs.call hf;have ag:=hf.le;exact aF rfl<|au (cg rfl hs rfl)
theorem wB(v:Value)(l:List cz)(w:cz)(g:G)(hl:Rs g v l):
  cN prog 231 #[v,.agg #[vI w.src,vI w.dst,vI w.dv]] g fun _ r=>r= .bool (follows l w):=by
 obtain⟨a,c,rfl⟩:=hl.isSlice;have hlen:=hl.ef;unfold maxLen at hlen;have hs:=St.start g;have aj:=G.le.refl g;refine enter func231 rfl ntmps231 rfl<|cO<|nX hs rfl fun b1 g1 hs ag=>?_;replace aj:=G.le.trans aj ag;refine aF rfl<|ak<|aD rfl ?_;by_cases h0:l.length=0
 ·refine aG (b:=(l.length:Int)==0) (by simp[h0]) rfl<|aD rfl<|au<|cg rfl hs ?_;rw[aa' h0];rfl
 refine bg (b:=(l.length:Int)==0) (by simp only[beq_eq_false_iff_ne];omega) rfl<|ar<|ai<|ck 4 rfl<|fP (y:=l[l.length-1]) (hl.mono aj) (bM (by rw[wq];omega) (by omega)) rfl ?_;rintro b p ys aK rfl;refine dE 1 [.e aK 0] rfl<|fA hs rfl fun b1 g1 hs ag=>dC 0 hs rfl fun g1 hs ag=>bE<|jd 6 [.o 0,.o 1] hs rfl<|cI (want:=false) (x:=(l[l.length-1].src==w.src&&decide (l[l.length-1].dst<w.dst))) 12 bJ rfl rfl rfl rfl (.inr ⟨rfl,rfl,rfl⟩) rfl rfl rfl rfl (fun hb Q' fp=>?_) (fun g' hf=>?_)
 ·refine Wm 6 [.o 0,.o 1] hs rfl<|cI (want:=true) (x:=decide (l[l.length-1].dst<w.dst)) 5 bJ rfl rfl rfl rfl (.inl ⟨rfl,rfl,rfl⟩) rfl rfl rfl rfl (fun hb Q' fp=>?_) (fun g' hf=>?_)
  ·exact Wm 5 [.o 0,.o 1] hs rfl<|an<|fun a ha=>fp _ a (bW.refl _) (ha.kp rfl)
  exact an fun a ha=>fp _ a hf (ha.kp rfl)
 replace hs:=hs.call hf;have ag:=hf.le;refine aF rfl<|au<|cg rfl hs ?_;unfold follows;rw[ac6,aas (by omega)]
 rfl
theorem EI(v fv:Value)(l:List Step)(p:Step→Bool)(g:G)(hl:Rs g v l)
  (hp: ∀(g':G) (x:Step) (u:Value),g.le g'→kz g' u x→jX prog fv [u] g'.w (ug g' fun _ r=>r= .bool (p x))):
  cN prog 266 #[v,fv] g fun _ r=>r=vI (ox p l):=by
 obtain⟨a,c,rfl⟩:=hl.isSlice;have hlen:=hl.ef;unfold maxLen at hlen;have hs:=St.start g;refine enter func266 rfl ntmps266 rfl<|aD rfl<|ak<|aD rfl<|aw ?_;refine aZ (fun m a' w=> ∃(k:Nat) (g':G),w=g'.w∧St g g' []∧G.le g g'∧k≤l.length∧m=l.length-k∧(∀j (h:j<l.length),j<k→p l[j]=false)∧
  Fr 19 [] [(0,.slice a l.length c),(1,fv),(7,vI l.length),(8,vI k)] a') l.length (fun a' ha=>⟨0,g,rfl,hs,G.le.refl g,aar _,rfl,by simp,ha.kp rfl⟩) ?_
 clear hs;rintro m a' _ ⟨k,g',rfl,hs,aj,hk,rfl,dt,dT⟩;revert a';refine bT<|aD rfl<|ak ?_;by_cases aV:k<l.length
 ·refine aG (b:=decide ((k:Int)<(l.length:Int))) (by simp;omega) rfl<|ar<|ai<|ak<|aw<|aD rfl<|ck 3 rfl<|fP (y:=l[k]) (hl.mono aj) (by simp[dq,aV]) rfl fun b q ys aK fw=>?_;have S6:kz g' (.agg ys.toArray) l[k]:=⟨ys,rfl,fw⟩;obtain⟨b1,b2,b3,b4,b5,b6,rfl,_,_⟩:=fw;refine dE 1 [.e aK 0] rfl<|aN rfl rfl<|fF rfl rfl rfl rfl rfl rfl (hp _ _ _ aj S6) ?_;rintro g1 _ aH rfl;replace hs:=hs.call aH;have ag:=aH.le;replace aj:=G.le.trans aj ag;apply bE;cases Cc:p l[k]with
  |true=>
   exact bZ rfl<|aD rfl<|au (cg rfl hs (by rw[xP aV Cc dt]))
  |false=>
   refine bI rfl<|ar<|aX<|ai<|ah<|Wp 2 rfl<|an<|fun a ha=>⟨l.length-(k+1),by omega,k+1,_,rfl,hs,aj,by omega,rfl,?_,ha.keep ⟨rfl,rfl,rfl,kW rfl,trivial⟩⟩
   intro j hj ER;by_cases e:j=k
   ·subst e;exact Cc
   exact dt j hj (by omega)
 refine bg (b:=decide ((k:Int)<(l.length:Int))) (by simp;omega) rfl<|aJ<|aM<|aM<|b_<|ai<|aD rfl ?_;obtain rfl:k=l.length:=by omega
 exact au (cg rfl hs (by rw[xQ fun j h=>dt j h h]))
theorem zW(v fv:Value)(l:List Step)(p:Step→Bool)(g:G)(hl:Rs g v l)
  (hp: ∀(g':G) (x:Step) (u:Value),g.le g'→kz g' u x→jX prog fv [u] g'.w (ug g' fun _ r=>r= .bool (p x))):
  cN prog 227 #[v,fv] g fun _ r=>r= .bool (l.any p):=by
 have hs:=St.start g;exact enter func227 rfl ntmps227 rfl<|aD rfl<|ck 2 rfl<|jN rfl (EI _ _ l p g hl hp) hs fun g1 hs ag=>aF rfl<|au (cg rfl hs (by rw[←qQ]))
theorem Mp(v:Value)(s:Step)(b:Nat)(n:Int)(g:G)(hv:kz g v s)(hn:EP g b 0 [vI n])(h1:0≤n)(h2:n≤9223372036854775807):
  cN prog 228 #[v,vP b] g fun _ r=>r= .bool (!bO s n):=by
 have TU:=hv;obtain⟨cs,rfl,a1,n1,c1,a2,n2,c2,rfl,N_,Lp⟩:=hv;have hs:=St.start g;have aj:=G.le.refl g;refine enter func228 rfl ntmps228 rfl<|cO<|nX hs rfl fun b1 g1 hs ag=>?_;replace aj:=G.le.trans aj ag;exact aF rfl<|jd 1 [.o 0] hs rfl<|aN rfl rfl<|cu T.ok 0 rfl (hn.mono aj) rfl rfl<|jN rfl (xf _ s n _ (TU.mono aj) h1 h2) hs fun g1 hs ag=>aF rfl<|au (cg rfl hs rfl)
set_option maxHeartbeats 400000
theorem G0(v:Value)(f:aU)(g:G)(dx:eQ g v f):cN prog 181 #[v] g fun _ r=>r= .bool (valid f):=by
 obtain⟨a1,n1,c1,a2,n2,c2,rfl,aA,aE⟩:=id dx;obtain⟨_,_,e⟩:=aA.isSlice;obtain⟨rfl,rfl,rfl⟩:=aaO e;clear e;obtain⟨_,_,e⟩:=aE.isSlice;obtain⟨rfl,rfl,rfl⟩:=aaO e;clear e;have hlen:=aA.ef;have Hv:=aE.ef;unfold maxLen at hlen Hv;have hs:=St.start g;have aj:=G.le.refl g;refine enter func181 rfl ntmps181 rfl<|cO<|nX hs rfl fun b1 g1 hs ag=>?_;obtain⟨aA,aE,dx⟩:=eS ag aA aE dx;refine aF rfl<|jd 3 [.o 0] hs rfl ?_
 rename Nat=>b0
 refine fA hs rfl fun b1 g1 hs ag=>?_;obtain⟨aA,aE,dx⟩:=eS ag aA aE dx;refine dC 0 hs rfl fun g1 hs ag=>?_;obtain⟨aA,aE,dx⟩:=eS ag aA aE dx;obtain⟨g2,fm,dm,ag,aK⟩:=hs.fM (i:=0) rfl;replace hs:=dm;clear dm;rw[←fm];obtain⟨aA,aE,dx⟩:=eS ag aA aE dx;have aq:=aK;clear aK fm ag;obtain⟨g2,fm,dm,ag,aK⟩:=hs.fM (i:=0) rfl;replace hs:=dm;clear dm;rw[←fm];obtain⟨aq,aA,aE,dx⟩:=dU ag aq aA aE dx;have aB:=aK;clear aK fm ag;have Qc:=aB;have nt:=aq;have CP:=aE;have cM:=G.le.refl g2;refine bE<|ak<|eO 1 [.z aB] rfl<|jN rfl (vj _ f _ dx) hs fun g1 hs ag=>?_;obtain⟨cM,aq,aB,aA,aE⟩:=mY ag cM aq aB aA aE;refine Wp 2 rfl<|cI (want:=false) (x:=!within f.steps.length 1 40) 3 bJ rfl rfl rfl rfl (.inr ⟨rfl,rfl,rfl⟩) rfl rfl rfl rfl (fun hb Q' fp=>?_) (fun g' hf=>?_)
 ·refine dE 1 [.z aq] rfl<|d_ rfl (lE _ _ _ _) ?_;rintro g1 _ aH rfl;replace hs:=hs.call aH;have ag:=aH.le;obtain⟨cM,aq,aB,aA,aE⟩:=mY ag cM aq aB aA aE;exact Wp 1 rfl<|an<|fun a ha=>fp _ a aH (ha.kp rfl)
 replace hs:=hs.call hf;have ag:=hf.le;obtain⟨cM,aq,aB,aA,aE⟩:=mY ag cM aq aB aA aE;refine Wp 1 rfl<|cI (want:=false) (x:=decide (20<(f.windows.length:Int))) 4 bJ rfl rfl rfl rfl (.inr ⟨rfl,rfl,rfl⟩) rfl rfl rfl rfl (fun hb Q' fp=>?_) (fun g' hf=>?_)
 ·exact dE 4 [.z aB] rfl<|an<|fun a ha=>fp _ a (bW.refl _) (ha.kp rfl)
 replace hs:=hs.call hf;have ag:=hf.le;obtain⟨cM,aq,aB,aA,aE⟩:=mY ag cM aq aB aA aE;apply bE;by_cases oq:((!dV f|| !within f.steps.length 1 40)||decide (20<(f.windows.length:Int)))=true
 ·refine aG oq rfl<|aD rfl<|au<|cg rfl hs ?_
  have:valid f=false:=by
   simp only[abz,ab8,decide_eq_true_eq]at oq;unfold valid;rcases oq with(h|h)|h
   ·rw[h];simp
   ·rw[h];simp
   rw[show decide ((f.windows.length:Int)≤20)=false from by simp;omega];simp
  rw[this]
 refine bg (abS.2 oq) rfl<|ar<|ai<|ak<|eO 3 [.z aB] rfl<|jN rfl (zW _ _ f.steps (fun s=> !bO s f.steps.length) _ aA (fun g' x u hle hx=>dF (cB 228) rfl (Mp u x _ _ g' hx (aq.mono hle) (by omega) (by omega)))) hs fun g1 hs ag=>?_;obtain⟨cM,aq,aB,aE⟩:=dU ag cM aq aB aE;apply bE;by_cases sO:(f.steps.any fun s=> !bO s f.steps.length)=true
 ·refine aG sO rfl<|aD rfl<|au<|cg rfl hs ?_
  have:(f.steps.all fun s=>bO s f.steps.length)=false:=by rw[abW]at sO;obtain⟨x,hx,h⟩:=sO;rw[List.all_eq_false];exact⟨x,hx,by simpa using h⟩
  unfold valid;rw[this];simp
 refine bg (abS.2 sO) rfl<|ar<|ai<|ak<|pW [.z aB] rfl<|aw ?_
 have hinv:fj f.steps.length [] f.windows=valid f:=by
  simp only[Bool.not_eq_true,acF,adm,decide_eq_false_iff_not]at oq;unfold valid;rw[oq.1.1,oq.1.2,show decide ((f.windows.length:Int)≤20)=true from by simp;omega];have:(f.steps.all fun s=>bO s f.steps.length)=true:=by
   rw[aa2];intro x hx;cases h:bO x f.steps.length with
   |true=>rfl
   |false=>exact absurd (abW.2 ⟨x,hx,by simp[h]⟩) sO
  rw[this];simp
 refine aZ (fun m a' w=> ∃(k:Nat) (g':G),w=g'.w∧St g g' []∧G.le g2 g'∧k≤f.windows.length∧m=f.windows.length-k∧fj f.steps.length (f.windows.take k) (f.windows.drop k)=valid f∧
  Fr 49 [] [(1,vP b0),(3,vP b1),(28,.slice a2 f.windows.length c2),(29,vI f.windows.length),(30,vI k)] a') f.windows.length
  (fun a' ha=>⟨0,_,rfl,hs,cM,aar _,rfl,by simpa using hinv,ha.kp rfl⟩) ?_
 clear hs cM aj aq aB aA aE dx;rintro m a' _ ⟨k,g',rfl,hs,cM,hk,rfl,dt,dT⟩;have aq:=nt.mono cM;have aB:=Qc.mono cM;have aE:=CP.mono cM;revert a';refine bT<|aD rfl<|ak ?_;by_cases aV:k<f.windows.length
 ·refine aG (b:=decide ((k:Int)<(f.windows.length:Int))) (by simp;omega) rfl ?_;rw[aa7 aV,fj]at dt;refine ar<|ai<|ak<|aw<|ck 1 rfl<|fP (y:=f.windows[k]) aE (by simp[dq,aV]) rfl ?_;rintro b q ys aK rfl;refine dE 1 [.e aK 0] rfl<|fA hs rfl fun b1 g1 hs ag=>?_;obtain⟨cM,aq,aB,aE⟩:=dU ag cM aq aB aE;refine Wp 1 rfl<|dC 0 hs rfl fun g1 hs ag=>?_;obtain⟨cM,aq,aB,aE⟩:=dU ag cM aq aB aE;refine bE<|ak ?_;cases O_:de f.windows[k] f.steps.length with
  |false=>
   apply aO hs (cV (gR (fe []))) 13 [(12,47)] (by kernel_rfl) rfl
   ·refine cY [[],[]] [.o 0,.e aq 0] hs rfl<|aW [(0,35),(1,36)] (fun gd hf=>?_) ?_
    ·skip;refine fD rfl<|az<|ay rfl<|(bu (cB 230) bJ rfl rfl rfl rfl rfl (gV _ _ _ (by omega) (by omega)) fun g' v h1 h2=>⟨g',rfl,h1,?_⟩);exact h2.trans (congrArg Value.bool O_)
    exact qo [[2],[3],[4],[5,4],[4],[6,7,4],[4],[8,9,4,4],[10,4],[4,11]] rfl
   clear hs;intro g1 hs ag;obtain⟨cM,aq,aB,aE⟩:=dU ag cM aq aB aE;refine bE<|bZ rfl<|aD rfl<|au<|cg rfl hs ?_;rw[←dt,O_];rfl
  |true=>
   have yS:=aE.cut (a:=0) (b:=k) (aar _) (by omega);apply aO hs (cV (gR (fe []))) 13 [(12,47)] (by kernel_rfl) rfl
   ·refine cY [[],[]] [.o 0,.e aq 0] hs rfl<|aW [(0,35),(1,36)] (fun gd hf=>?_) ?_
    ·skip;refine fD rfl<|az<|ay rfl<|(bu (cB 230) bJ rfl rfl rfl rfl rfl (gV _ _ _ (by omega) (by omega)) fun g' v h1 h2=>⟨g',rfl,h1,?_⟩);exact h2.trans (congrArg Value.bool O_)
    refine cY [[2],[3],[4],[5,4],[4]] [.e aB 3] (St.start _) rfl<|aW [(6,41),(7,42),(4,39)] (fun gd hf=>?_) ?_
    ·skip;refine lJ rfl<|az<|ay rfl<|(iA T.ok rfl rfl rfl rfl rfl (a:=0) (b:=k) rfl ⟨_,rfl⟩ (aar _) (by have:=(aE.mL).2.1;omega) ?_);exact⟨_,rfl,bW.refl _,rfl⟩
    refine cY [[4]] [.o 0] hs rfl<|aW [(8,43),(9,44),(4,39),(4,39)] (fun gd hf=>?_) ?_
    ·have eR:=(G.a_ _).trans hf.le;refine lJ rfl<|bU rfl<|az<|ay rfl<|(bu (cB 231) bJ rfl rfl rfl rfl rfl (wB _ _ _ _ (yS.mono eR)) fun g' v h1 h2=>⟨g',rfl,h1,?_⟩);exact h2
    exact qo [[10,4],[4,11]] rfl
   clear hs;intro g1 hs ag;replace cM:=G.le.trans cM ag;apply bE;cases mH:follows (f.windows.take k) f.windows[k]with
   |false=>
    refine aG (by simp[mH]) rfl<|aD rfl<|au<|cg rfl hs ?_;rw[←dt,O_,mH];rfl
   |true=>
    refine bg (by simp[mH]) rfl<|ar<|aX<|ai<|ah<|Wp 2 rfl<|an<|fun a ha=>⟨f.windows.length-(k+1),by omega,k+1,_,rfl,hs.drop 0,cM,by omega,rfl,?_,ha.keep ⟨rfl,rfl,rfl,rfl,kW rfl,trivial⟩⟩
    rw[←dt,O_,mH,aaX aV];rfl
 refine bg (b:=decide ((k:Int)<(f.windows.length:Int))) (by simp;omega) rfl<|aJ<|aM<|aM<|b_<|ai<|aD rfl ?_;obtain rfl:k=f.windows.length:=by omega
 refine au<|cg rfl hs ?_;rw[←dt];simp[fj]
def dec(n:Nat):List UInt8:=Lib.decDigits n
def fX(b:UInt8):Bool:=decide (48≤b.toNat)&&decide (b.toNat≤57)
def iQ(acc:Nat)(l:List UInt8):Nat:=l.foldl (fun a b=>10*a+(b.toNat-48)) acc
def val(l:List UInt8):Nat:=iQ 0 l
theorem iU{n:Nat}(h:n<10):dec n=[UInt8.ofNat (48+n)]:=by unfold dec;rw[Lib.decDigits,dif_pos h]
theorem pP{n:Nat}(h: ¬n<10):dec n=dec (n/10)++[UInt8.ofNat (48+n % 10)]:=by unfold dec;rw[Lib.decDigits,dif_neg h]
theorem IG(acc:Nat)(l m:List UInt8):iQ acc (l++m)=iQ (iQ acc l) m:=by unfold iQ;rw[abK]
theorem wm{k:Nat}(h:k<10):(UInt8.ofNat (48+k)).toNat=48+k:=by rw[UInt8.toNat_ofNat'];omega
theorem Eh{k:Nat}(h:k<10):fX (UInt8.ofNat (48+k))=true:=by unfold fX;rw[wm h];simp;omega
theorem CJ(n:Nat):val (dec n)=n:=by
 induction n using Nat.strongRecOn with
 |_ n ih=>
  by_cases h:n<10
  ·rw[iU h];unfold val iQ;simp only[abT,List.foldl_nil];rw[wm h];omega
  rw[pP h];unfold val;rw[IG,show iQ 0 (dec (n/10))=n/10 from ih (n/10) (by omega)];unfold iQ;simp only[abT,List.foldl_nil];rw[wm (by omega)];omega
theorem pQ(n:Nat): ∀b∈dec n,fX b=true:=by
 induction n using Nat.strongRecOn with
 |_ n ih=>
  by_cases h:n<10
  ·rw[iU h];intro b hb;obtain rfl:=aaL.1 hb;exact Eh h
  rw[pP h];intro b hb;rcases aaJ.1 hb with hb|hb
  ·exact ih (n/10) (by omega) b hb
  obtain rfl:=aaL.1 hb;exact Eh (by omega)
theorem pR(n:Nat):dec n≠[]:=by
 by_cases h:n<10
 ·rw[iU h];simp
 rw[pP h];simp
theorem Hp{n:Nat}(h:0<n): ∀r,dec n≠48::r:=by
 induction n using Nat.strongRecOn with
 |_ n ih=>
  intro r;by_cases hs:n<10
  ·rw[iU hs];intro e;have:=congrArg (fun l:List UInt8=>(l.headD 0).toNat) e;simp only[List.headD_cons]at this;rw[wm hs]at this;have E4:(48:UInt8).toNat=48:=rfl;omega
  rw[pP hs];intro e;cases hd:dec (n/10)with
  |nil=>exact pR _ hd
  |cons x t=>
   rw[hd,aa0]at e;obtain⟨e1,_⟩:=abY e;exact ih (n/10) (by omega) (by omega) t (by rw[hd,e1])
def canon(l:List UInt8):Bool:=l.all fX&&(match l with|[]=>false|[_]=>true|b::_=>b !=48)
theorem IH(n:Nat):canon (dec n)=true:=by
 unfold canon;rw[aaA];refine⟨aa2.2 (pQ n),?_⟩;cases hd:dec n with
 |nil=>exact absurd hd (pR n)
 |cons b t=>
  cases t with
  |nil=>rfl
  |cons c t=>
   have hn:0<n:=by refine Nat.pos_of_ne_zero fun h0=>?_;subst h0;rw[iU (by decide)]at hd;simp at hd
   have:=Hp hn;simp only[bne_iff_ne,ne_eq];intro e;subst e;exact this _ hd
theorem LK{n:Nat}(h:0<n){b:UInt8}(hb:fX b=true):dec (10*n+(b.toNat-48))=dec n++[b]:=by unfold fX at hb;simp only[aaA,decide_eq_true_eq]at hb;rw[pP (by omega),show(10*n+(b.toNat-48))/10=n from by omega,show(10*n+(b.toNat-48)) % 10=b.toNat-48 from by omega,show 48+(b.toNat-48)=b.toNat from by omega,UInt8.ofNat_toNat]
theorem II(l:List UInt8): ∀n,0<n→l.all fX=true→dec (iQ n l)=dec n++l:=by
 induction l with
 |nil=>intro n _ _;simp[iQ]
 |cons b t ih=>
  intro n hn hl;rw[ab_,aaA]at hl;show dec (iQ (10*n+(b.toNat-48)) t)=_;have hb:=hl.1;unfold fX at hb;simp only[aaA,decide_eq_true_eq]at hb;rw[ih _ (by omega) hl.2,LK hn hl.1,aaG];rfl
theorem Hq{l:List UInt8}(h:canon l=true):dec (val l)=l:=by
 unfold canon at h;rw[aaA]at h;obtain⟨h1,h2⟩:=h;cases l with
 |nil=>simp at h2
 |cons b t=>
  rw[ab_,aaA]at h1;have hb:=h1.1;unfold fX at hb;simp only[aaA,decide_eq_true_eq]at hb;have e0:val (b::t)=iQ (b.toNat-48) t:=by unfold val iQ;simp
  have tu:dec (b.toNat-48)=[b]:=by rw[iU (by omega),show 48+(b.toNat-48)=b.toNat from by omega,UInt8.ofNat_toNat]
  cases t with
  |nil=>rw[e0];exact tu
  |cons c t=>
   have fL:b≠48:=by simpa using h2
   have nv:0<b.toNat-48:=by have:b.toNat≠48:=fun e=>fL (UInt8.toNat_inj.1 e);omega
   rw[e0,II _ _ nv h1.2,tu];rfl
def gP(l:List UInt8):Option Nat:=if canon l=true∧val l≤1000000 then some (val l)else none
theorem jq{l:List UInt8}{n:Nat}:gP l=some n↔l=dec n∧n≤1000000:=by
 unfold gP;constructor
 ·intro h;split at h
  ·rename_i hc;obtain rfl:=aax h;exact⟨(Hq hc.1).symm,hc.2⟩
  cases h
 rintro⟨rfl,hn⟩;rw[CJ,if_pos ⟨IH n,hn⟩]
theorem j_{n:Nat}(h:n≤1000000):gP (dec n)=some n:=jq.2 ⟨rfl,h⟩
theorem wY: ∀(l:List UInt8) (acc:Nat),l.all fX=true→iQ acc l≤1000000000→Lib.parseUint10 acc l= .ok (iQ acc l)
 |[],acc,_,_=>rfl
 |b::t,acc,h,hv=>by
  rw[ab_,aaA]at h;have hb:=h.1;unfold fX at hb;simp only[aaA,decide_eq_true_eq]at hb;have EK: ∀(t:List UInt8) (a:Nat),a≤iQ a t:=by
   intro t
   induction t with
   |nil=>intro a;exact aaz _
   |cons c t ih=>intro a;exact aaC (by omega) (ih (10*a+(c.toNat-48)))
  have TU:iQ (10*acc+(b.toNat-48)) t≤1000000000:=hv;have h1:=EK t (10*acc+(b.toNat-48));unfold Lib.parseUint10;rw[if_pos hb,if_neg (by omega),if_neg (by omega),show acc*10+(b.toNat-48)=10*acc+(b.toNat-48)from by omega];exact wY t _ h.2 TU
theorem LL{n:Nat}(h:n≤1000000):Lib.atoiAll (dec n)= .ok (n:Int):=by
 have hd:=pQ n;have hv:=CJ n;have hp:=wY (dec n) 0 (aa2.2 hd) (by show val (dec n)≤_;rw[hv];omega);rw[show iQ 0 (dec n)=n from hv]at hp;cases hl:dec n with
 |nil=>exact absurd hl (pR n)
 |cons c r=>
  have hc:=hd c (by rw[hl];simp);unfold fX at hc;simp only[aaA,decide_eq_true_eq]at hc;unfold Lib.atoiAll;simp only;rw[if_neg (by omega)];unfold Lib.parseMag;rw[if_neg (by simp),←hl,hp];simp only;rw[if_neg (by omega),if_neg (by omega),if_neg (by omega)]
theorem zw(n:Nat):Lib.itoa (n:Int)=dec n:=by unfold Lib.itoa dec;rw[if_neg (by omega),abl]
theorem LM{l:List UInt8}{v:Int}(h:Lib.atoiAll l= .ok v)(h0:0≤v)(h1:v≤1000000)(h2:Lib.itoa v=l):gP l=some v.toNat:=by obtain⟨n,rfl⟩: ∃n:Nat,v=n:=⟨v.toNat,by omega⟩;rw[zw]at h2;rw[←h2,abl];exact j_ (by omega)
theorem Rc{l:List UInt8}{n:Nat}(h:gP l=some n):Lib.atoiAll l= .ok (n:Int)∧Lib.itoa (n:Int)=l∧n≤1000000:=by obtain⟨rfl,hn⟩:=jq.1 h;exact⟨LL hn,zw n,hn⟩
def bD(c:UInt8):List UInt8→List (List UInt8)
 |[]=>[[]]
 |b::t=>if b=c then []::bD c t else
  match bD c t with
  |[]=>[[b]]
  |x::r=>(b::x)::r
def dN(c:UInt8):List (List UInt8)→List UInt8
 |[]=>[]
 |[x]=>x
 |x::y::r=>x++c::dN c (y::r)
theorem se(c:UInt8)(l:List UInt8):bD c l≠[]:=by
 cases l with
 |nil=>simp[bD]
 |cons b t=>
  unfold bD;split
  ·simp
  split<;>simp
theorem Gd(c:UInt8)(b:UInt8)(x:List UInt8)(r:List (List UInt8)):dN c ((b::x)::r)=b::dN c (x::r):=by cases r<;>rfl
theorem zx(c:UInt8){ps:List (List UInt8)}(h:ps≠[]):dN c ([]::ps)=c::dN c ps:=by
 cases ps with
 |nil=>exact absurd rfl h
 |cons x r=>rfl
theorem Ge(c:UInt8)(l:List UInt8):dN c (bD c l)=l:=by
 induction l with
 |nil=>rfl
 |cons b t ih=>
  unfold bD;split
  ·rename_i h;rw[zx c (se c t),ih,h]
  split
  ·rename_i h;exact absurd h (se c t)
  rename_i x r h;rw[Gd,←h,ih]
theorem LN(c:UInt8)(l:List UInt8): ∀p∈bD c l,c∉p:=by
 induction l with
 |nil=>intro p hp;simp[bD]at hp;subst hp;simp
 |cons b t ih=>
  intro p hp;unfold bD at hp;split at hp
  ·rcases aav.1 hp with rfl|hp
   ·simp
   exact ih p hp
  rename_i hb;split at hp
  ·rename_i h;exact absurd h (se c t)
  rename_i x r h;rcases aav.1 hp with rfl|hp
  ·intro hc;rcases aav.1 hc with hc|hc
   ·exact hb hc.symm
   exact ih x (by rw[h];simp) hc
  exact ih p (by rw[h];simp[hp])
theorem rf(c:UInt8): ∀x:List UInt8,c∉x→bD c x=[x]
 |[],_=>rfl
 |b::t,h=>by rw[aav,not_or]at h;unfold bD;rw[if_neg (fun e=>h.1 e.symm),rf c t h.2]
theorem wo(c:UInt8): ∀(x r:List UInt8),c∉x→bD c (x++c::r)=x::bD c r
 |[],r,_=>by show bD c (c::r)=_;rw[bD,if_pos rfl]
 |b::t,r,h=>by rw[aav,not_or]at h;show bD c (b::(t++c::r))=_;rw[bD,if_neg (fun e=>h.1 e.symm),wo c t r h.2]
theorem zy(c:UInt8): ∀ps:List (List UInt8),ps≠[]→(∀p∈ps,c∉p)→bD c (dN c ps)=ps
 |[],h,_=>absurd rfl h
 |[x],_,h=>rf c x (h x (by simp))
 |x::y::r,_,h=>by show bD c (x++c::dN c (y::r))=_;rw[wo c x _ (h x (by simp)),zy c (y::r) (by simp) fun p hp=>h p (by simp[hp])]
theorem jC(c:UInt8){l:List UInt8}{ps:List (List UInt8)}:bD c l=ps↔l=dN c ps∧ps≠[]∧ ∀p∈ps,c∉p:=by
 constructor
 ·rintro rfl;exact⟨(Ge c l).symm,se c l,LN c l⟩
 rintro⟨rfl,h1,h2⟩;exact zy c ps h1 h2
theorem index_one(c b:UInt8)(l:List UInt8):Lib.index (b::l) [c]=if c=b then 0 else if Lib.index l [c]= -1 then -1 else Lib.index l [c]+1:=by
 by_cases h:c=b
 ·subst h;rw[Lib.index];simp[List.isPrefixOf]
 have hp:([c]:List UInt8).isPrefixOf (b::l)=false:=by simp[List.isPrefixOf,h]
 rw[Lib.index,hp,if_neg h];by_cases h2:Lib.index l [c]= -1
 ·simp[h2]
 simp[h2]
theorem Bt(c:UInt8): ∀s:List UInt8,Lib.splitK [c] 0 (s.count c) s=bD c s
 |[]=>rfl
 |b::l=>by
  have ih:=Bt c l;by_cases h:b=c
  ·subst h;rw[List.count_cons_self,Lib.splitK,bD,if_pos rfl];have h0:Lib.index (b::l) [b]=0:=by rw[index_one,if_pos rfl]
   rw[if_neg (by rw[h0];decide),h0];exact congrArg _ ih
  rw[List.count_cons_of_ne (by simpa using h),bD,if_neg h,←ih];cases hk:l.count c with
  |zero=>rfl
  |succ k=>
   have fL:Lib.index l [c]≠ -1:=by intro e;have h1:=Lib.count_miss e;rw[Lib.count_one,hk]at h1;omega
   have EK:=Lib.index_ge l [c];obtain⟨j,hj⟩: ∃j:Nat,Lib.index l [c]=j:=⟨(Lib.index l [c]).toNat,by omega⟩
   have hb:Lib.index (b::l) [c]=((j+1:Nat):Int):=by rw[index_one,if_neg (fun e=>h e.symm),if_neg fL,hj];omega
   unfold Lib.splitK;rw[hb,hj,if_neg (by simp;omega),if_neg (by simp)];simp
theorem Ei(c:UInt8)(s:List UInt8):Lib.split s [c]=bD c s:=by unfold Lib.split;rw[Lib.count_one];exact Bt c s
def ni{α:Type}:List (Option α)→Option (List α)
 |[]=>some []
 |none::_=>none
 |some x::r=>(ni r).map fun l=>x::l
theorem od{α:Type}: ∀{l:List (Option α)} {xs:List α},ni l=some xs↔l=xs.map some
 |[],xs=>by cases xs<;>simp[ni]
 |none::r,xs=>by cases xs<;>simp[ni]
 |some x::r,xs=>by
  have ih:=fun ys:List α=>od (l:=r) (xs:=ys);unfold ni;cases xs with
  |nil=>simp
  |cons y ys=>
   rw[abk];constructor
   ·rintro⟨a,h1,h2⟩;obtain⟨rfl,rfl⟩:=abY h2;rw[(ih a).1 h1];rfl
   intro h;simp only[aa8,ab1,aau]at h;exact⟨ys,(ih ys).2 h.2,by rw[h.1]⟩
def o5(s:List UInt8):Option (List Nat):=ni ((bD 44 s).map gP)
theorem Gf{c:UInt8}(h:fX c=false)(n:Nat):c∉dec n:=fun hc=>by rw[pQ n c hc]at h;cases h
theorem wu{s:List UInt8}{l:List Nat}:o5 s=some l↔s=dN 44 (l.map dec)∧l≠[]∧ ∀n∈l,n≤1000000:=by
 unfold o5;rw[od];constructor
 ·intro h;have dW: ∀(ps:List (List UInt8)) (l:List Nat),ps.map gP=l.map some→ps=l.map dec∧ ∀n∈l,n≤1000000:=by
   intro ps
   induction ps with
   |nil=>intro l h;cases l<;>simp at h;exact⟨rfl,by simp⟩
   |cons p ps ih=>
    intro l h;cases l with
    |nil=>simp at h
    |cons n l=>
     rw[aa8,aa8]at h;obtain⟨h1,h2⟩:=abY h;obtain⟨e1,e2⟩:=jq.1 h1;obtain⟨e3,e4⟩:=ih l h2;exact⟨by rw[e1,e3];rfl,fun m hm=>by rcases aav.1 hm with rfl|hm;exact e2;exact e4 m hm⟩
  obtain⟨h1,h2⟩:=dW _ _ h;obtain⟨h3,h4,_⟩:=(jC 44).1 h1;exact⟨h3,fun e=>by subst e;exact h4 rfl,h2⟩
 rintro⟨h1,h2,h3⟩;have:bD 44 s=l.map dec:=(jC 44).2 ⟨h1,by simpa using h2,fun p hp=>by obtain⟨n,_,rfl⟩:=aaU.1 hp;exact Gf rfl n⟩;rw[this,abw];exact acq fun n hn=>j_ (h3 n hn)
def o6(s:List UInt8):Option (Nat×Nat):=
 if Lib.index s [46,46]<0 then none
 else match gP (s.take (Lib.index s [46,46]).toNat),gP (s.drop ((Lib.index s [46,46]).toNat+2))with
  |some a,some b=>some (a,b)
  |_,_=>none
theorem Gg(a:Nat)(r:List UInt8):Lib.index (dec a++46::46::r) [46,46]=((dec a).length:Int):=by
 refine Lib.index_first (by simp) ?_ fun j hj=>?_
 ·unfold Lib.occAt;rw[ack];simp[List.isPrefixOf]
 unfold Lib.occAt;rw[adh (by omega),aa7 hj,aa0];have hd:=pQ a _ (aaQ hj);have fL:((46:UInt8)==(dec a)[j])=false:=by rw[beq_eq_false_iff_ne];intro e;rw[←e]at hd;cases hd
 simp[List.isPrefixOf,fL]
theorem sf{s:List UInt8}{a b:Nat}:o6 s=some (a,b)↔s=dec a++46::46::dec b∧a≤1000000∧b≤1000000:=by
 unfold o6;constructor
 ·intro h;split at h
  ·cases h
  rename_i h0;rcases Lib.index_spec s [46,46]with⟨h1,_⟩|⟨i,h1,h2,h3,_⟩
  ·omega
  rw[h1]at h;simp only[abl]at h;split at h
  ·rename_i x y h4 h5;simp only[aau,aaB]at h;obtain⟨rfl,rfl⟩:=h;obtain⟨e1,l1⟩:=jq.1 h4;obtain⟨e2,l2⟩:=jq.1 h5;refine⟨?_,l1,l2⟩;unfold Lib.occAt at h3;have h6:s.drop i=46::46::s.drop (i+2):=by
    rw[←aca];cases hd:s.drop i with
    |nil=>rw[hd]at h3;cases h3
    |cons p t=>
     cases t with
     |nil=>rw[hd]at h3;simp[List.isPrefixOf]at h3
     |cons q t=>
      rw[hd]at h3;simp only[List.isPrefixOf,aaA,beq_iff_eq,and_true]at h3;obtain⟨rfl,rfl⟩:=h3;rfl
   rw[←e1,←e2,←h6,aaY]
  cases h
 rintro⟨rfl,h1,h2⟩;rw[Gg,if_neg (by omega),abl,acf];have h3:(dec a++46::46::dec b).drop ((dec a).length+2)=dec b:=by rw[←aca,ack];rfl
 rw[h3,j_ h1,j_ h2]
open Go.RowKit
set_option maxHeartbeats 1000000
theorem QG:prog.globalNamed "internal/strconv.uint64pow10" =some 3:=by kernel_rfl
structure kr(g:G):Prop where
 len: ∃m,EP g 0 0 [vI m]
 tab:g.im 3∧Lib.TabIs prog g.w "internal/strconv.uint64pow10" .u64 Lib.pow10Tab
 syn: ∃ev,EP g 4 0 [ev]∧(ev= .nilIface∨ ∃te pe,ev= .iface te pe)
 rng: ∃ev,EP g 5 0 [ev]∧(ev= .nilIface∨ ∃te pe,ev= .iface te pe)
theorem kr.mono{g g':G}(h:kr g)(hle:g.le g'):kr g':=by obtain⟨⟨m,h1⟩,⟨h2,h3⟩,⟨e1,h4,h5⟩,⟨e2,h6,h7⟩⟩:=h;refine⟨⟨m,h1.mono hle⟩,⟨(hle _ h2).1,?_⟩,⟨e1,h4.mono hle,h5⟩,⟨e2,h6.mono hle,h7⟩⟩;unfold Lib.TabIs World.var? at h3⊢;rw[QG]at h3⊢;simp only[acA]at h3⊢;rw[(hle _ h2).2];exact h3
instance{g g':G}:Mn (kr g) g g' (kr g'):=⟨fun h a=>a.mono h⟩
theorem xZ{g:G}{b:Nat}{v:Value}(h:EP g b 0 [v]):g.w.cell? ⟨b,0,none⟩=some v:=h.2 0 v rfl
def jJ(n:Int):Prop:=-9223372036854775808≤n∧n≤9223372036854775807
theorem Mh(n:Int)(g:G)(hn:jJ n)(hF:kr g):cN prog 263 #[vI n] g fun _ r=>r= .string (bs (Lib.itoa n)):=by unfold jJ at hn;refine nf ((Tryz.strconv_Itoa n hn.1 hn.2 g.w hF.tab.2).mono ?_) fun _ _=>rfl;rintro e w' ⟨rfl,k,os,rfl⟩;exact⟨rfl,Lib.below_grow _ _ (aaz _) k os⟩
theorem EE(s p:List UInt8)(g:G):cN prog 179 #[.string (bs s),.string (bs p)] g fun _ r=>r= .bool (p.isPrefixOf s):=by refine nf ((Tryz.strings_HasPrefix (bs s) (bs p) g.w).mono ?_) fun _ _=>rfl;rintro e w' ⟨rfl,rfl⟩;exact⟨rfl,Below.refl _ _⟩
theorem Us(s p:List UInt8)(g:G)(hs:s.length≤1000000)(hF:kr g):cN prog 284 #[.string (bs s),.string (bs p)] g fun _ r=>r= .tuple #[.string (bs (Lib.cut s p).1),.string (bs (Lib.cut s p).2.1),.bool (Lib.cut s p).2.2]:=by obtain⟨m,hm⟩:=hF.len;refine nf ((Tryz.strings_Cut (bs s) (bs p) m g.w (by rw[bX];omega) (xZ hm)).mono ?_) fun _ _=>rfl;rintro e w' ⟨rfl,n,rfl⟩;exact⟨rfl,below_drewN (Below.refl _ _) n⟩
def HC(s:List UInt8)(r:Value):Prop:=∃v err,r= .tuple #[vI v,err]∧match Lib.atoiAll s with
 | .ok x=>v=x∧err= .nilIface
 |_=> ∃t p,err= .iface t p
theorem Rt(s:List UInt8)(g:G)(hs:s.length≤1000000)(hF:kr g):cN prog 286 #[.string (bs s)] g fun _ r=>HC s r:=by
 have dk:(bs s).size≤281474976710656:=by rw[bX];omega
 unfold HC;cases ha:Lib.atoiAll s with
 |ok x=>
  refine callsIn_wide.2<|(Tryz.strconv_Atoi_ok (bs s) (by omega) x ha g.w).mono ?_;rintro e w' ⟨rfl,hw⟩;refine ug.below ?_ fun _ _ _=>⟨x,_,rfl,rfl,rfl⟩
  rcases hw with rfl|⟨t,rfl⟩
  ·exact Below.refl _ _
  exact Lib.bytesWorld_below _ _ _
 |range=>
  obtain⟨ev,h1,h2⟩:=hF.rng;refine callsIn_wide.2<|(Tryz.strconv_Atoi_range (bs s) dk ha ev g.w (xZ h1) h2).mono ?_;rintro e w' ⟨N,rfl,_,_,hb⟩;exact ug.below hb fun _ _ _=>⟨_,_,rfl,_,_,rfl⟩
 |_=>
  obtain⟨ev,h1,h2⟩:=hF.syn;refine callsIn_wide.2<|(Any.strconv_Atoi_syntax Tryz.laysC172 (bs s) dk ha ev g.w (xZ h1) h2).mono ?_;rintro e w' ⟨N,rfl,_,_,hb⟩;exact ug.below hb fun _ _ _=>⟨_,_,rfl,_,_,rfl⟩
theorem cR.strs(g:G): ∀l:List (List UInt8),cR g (l.map fun s=>Value.string (bs s)) (l.map xU.mk)
 |[]=>rfl
 |s::l=>⟨[.string (bs s)],_,rfl,rfl,cR.strs g l⟩
theorem CT(s:List UInt8)(c:UInt8)(g:G)(hs:s.length≤1000000)(hF:kr g):cN prog 178 #[.string (bs s),.string (bs [c])] g (lj 9 g ((bD c s).map xU.mk)):=by
 obtain⟨m,hm⟩:=hF.len;refine callsIn_wide.2<|(Tryz.strings_Split (bs s) (bs [c]) m g.w (by rw[bX];omega) (xZ hm) (by rw[bX];exact aaz 1)).mono ?_;have PE:(Lib.splitB (bs [c]) 0 (Lib.countB (bs s) (bs [c])) (bs s)).map (fun b=>b.data.toList)=bD c s:=by rw[Lib.splitB_data];exact Ei c s
 have hlen:=Lib.splitB_all (bs [c]) (by rw[bX];exact aaz 1) 0 _ (bs s) rfl;have hn:Lib.countB (bs s) (bs [c])+1=(bD c s).length:=by rw[←PE,aaS,hlen]
 have Ru:(Lib.splitB (bs [c]) 0 (Lib.countB (bs s) (bs [c])) (bs s)).map Value.string=(bD c s).map fun x=>Value.string (bs x):=by rw[←PE,abw];exact acq fun b _=>congrArg Value.string (Pd b)
 rw[hn,Ru];rintro e w' ⟨rfl,rfl⟩;let cells:=(bD c s).map fun x=>Value.string (bs x)
 let W:=g.w.alloc (.cells cells.toArray 9)
 have Ut:Below g.w.heap.size g.w W:=(Below.refl _ _).alloc (aaz _) _;let g':G:=⟨W,g.im,fun b h=>abp (g.lt b h) Ut.size⟩
 have FF:W.heap[g.w.heap.size]? =some (.cells cells.toArray 9 (0,0)):=by show(g.w.heap.push _)[g.w.heap.size]? =_;rw[Array.getElem?_push_size]
 have je:cells.length=(bD c s).length:=aaS _;refine⟨g',_,rfl,⟨Ut,fun _ _=>aba⟩,rfl,cells,⟨⟨?_,.inr ⟨g.w.heap.size,0,_,cells.toArray,?_,aaz _,gO.plain FF,aaz _,?_,?_,?_⟩⟩,?_⟩,cR.strs _ _⟩
 ·rw[je,aaS];exact(aaW _).symm
 ·rw[aaS]
 ·unfold maxLen;rw[aaS,←hn];have:=Lib.countB_le (bs [c]) (by rw[bX];exact aaz 1) (bs s).size (bs s) (aaz _);rw[bX]at this;omega
 ·rw[acC,je,aaS,abo];exact(aaW _).symm
 ·rw[ab',aaS];show cells.take _=cells;rw[aaD (by rw[je];exact Nat.le_of_eq (aaW _).symm)]
 intro b hb uk;have:b=g.w.heap.size:=by obtain⟨a,n,c',e1,_,e2⟩:=nH hb;simp only[aaK,aau]at e1;rw[←e2,←e1.1]
 have:=g.lt b uk;omega
def jc:List UInt8:=[115,116,101,112]
def gv:List UInt8:=[114,101,99,105,112,101]
def jQ:List UInt8:=[116,111,111,108,115]
def mS:List UInt8:=[116,105,109,101]
def mT:List UInt8:=[110,101,120,116]
def mU:List UInt8:=[98,97,99,107]
def i_:List UInt8:=[108,105,109,105,116]
def fV:List UInt8:=[119,105,110,100,111,119]
def mD:List UInt8:=[109,111,118,101]
def lB(n:Int):Prop:=0≤n∧n≤1000000
def cq(n:Int):List UInt8:=dec n.toNat
def fI(l:List Int):List UInt8:=if l=[]then [45]else dN 44 (l.map cq)
def jR(a b:Int):List UInt8:=cq a++46::46::cq b
def rh(i:Nat)(s:Step):List (List UInt8):=
 [jc,dec i,gv,cq s.du,jQ,fI s.cZ,mS,jR s.min s.max,mT,fI s.next]++if 0≤s.back then [mU,cq s.back,i_,cq s.dv]else []
def pS(w:cz):List (List UInt8):=[fV,cq w.src,cq w.dst,cq w.dv]
def zA(a b:Int):List (List UInt8):=[mD,jR a b]
def fJ(i:Nat)(s:Step):List UInt8:=dN 32 (rh i s)
def eG(w:cz):List UInt8:=dN 32 (pS w)
def iR(a b:Int):List UInt8:=dN 32 (zA a b)
def ints(l:List Nat):List Int:=l.map fun n:Nat=>(n:Int)
def s7(w:List UInt8):Option (List Nat):=if w=[45]then some []else o5 w
def ke(a3 a5 a7 a9:List UInt8)(bk:Option (Int×Int)):Option Step:=
 match gP a3,o5 a5,o6 a7,s7 a9,bk with
 |some r,some t,some mm,some nx,some bl=>some ⟨r,ints t,mm.1,mm.2,ints nx,bl.1,bl.2⟩
 |_,_,_,_,_=>none
def wZ(x y:List UInt8):Option (Int×Int):=
 match gP x,gP y with
 |some a,some b=>some (a,b)
 |_,_=>none
def lC(i:Nat)(a0 a1 a2 a4 a6 a8:List UInt8):Bool:=a0==jc&&a1==dec i&&a2==gv&&a4==jQ&&a6==mS&&a8==mT
def fN(i:Nat)(line:List UInt8):Option Step:=
 match bD 32 line with
 |[a0,a1,a2,a3,a4,a5,a6,a7,a8,a9]=>if lC i a0 a1 a2 a4 a6 a8=true then ke a3 a5 a7 a9 (some (-1,0))else none
 |[a0,a1,a2,a3,a4,a5,a6,a7,a8,a9,b0,b1,b2,b3]=>if lC i a0 a1 a2 a4 a6 a8=true∧b0=mU∧b2=i_ then ke a3 a5 a7 a9 (wZ b1 b3)else none
 |_=>none
def jD(line:List UInt8):Option cz:=
 match bD 32 line with
 |[a0,a1,a2,a3]=>if a0=fV then
   match gP a1,gP a2,gP a3 with
   |some x,some y,some z=>some ⟨x,y,z⟩
   |_,_,_=>none
  else none
 |_=>none
def s8(line:List UInt8):Option (Int×Int):=
 match bD 32 line with
 |[a0,a1]=>if a0=mD then(o6 a1).map fun p=>((p.1:Int),(p.2:Int))else none
 |_=>none
structure LO(s:Step):Prop where
 du:lB s.du
 cZ:s.cZ≠[]
 tR: ∀n∈s.cZ,lB n
 min:lB s.min
 max:lB s.max
 next: ∀n∈s.next,lB n
 back:(s.back= -1∧s.dv=0)∨(lB s.back∧lB s.dv)
theorem LP(l:List Nat):(ints l).map cq=l.map dec:=by unfold ints;rw[abw];rfl
theorem va{l:List Nat}(h: ∀n∈l,n≤1000000): ∀n∈ints l,lB n:=by intro n hn;obtain⟨m,hm,rfl⟩:=aaU.1 hn;have:=h m hm;exact⟨by omega,by omega⟩
theorem CK{l:List Nat}:ints l=[]↔l=[]:=by unfold ints;exact List.map_eq_nil_iff
theorem sg{l:List Int}(h: ∀n∈l,lB n):ints (l.map Int.toNat)=l:=by
 unfold ints;rw[abw];conv=>rhs;rw[←List.map_id l]
 exact acq fun n hn=>by have:=(h n hn).1;show((n.toNat:Nat):Int)=n;omega
theorem mE{l:List Nat}(h:l≠[]):fI (ints l)=dN 44 (l.map dec):=by unfold fI;rw[if_neg (fun e=>h (CK.1 e)),LP]
theorem IJ{c:UInt8}{x:List UInt8}{r:List (List UInt8)}(h:x≠[]):(dN c (x::r)).head? =x.head?:=by
 cases x with
 |nil=>exact absurd rfl h
 |cons b t=>cases r<;>rfl
theorem LQ(l:List Nat)(h:l≠[]):dN 44 (l.map dec)≠[45]:=by
 cases l with
 |nil=>exact absurd rfl h
 |cons n l=>
  intro e;have:=IJ (c:=44) (r:=l.map dec) (pR n);rw[aa8]at e;rw[e]at this;cases hd:dec n with
  |nil=>exact pR n hd
  |cons b t=>
   rw[hd]at this;simp only[List.head?_cons,aau]at this;have hb:=pQ n b (by rw[hd];simp);rw[←this]at hb;cases hb
theorem Bu{w:List UInt8}{l:List Nat}:s7 w=some l↔w=fI (ints l)∧ ∀n∈l,n≤1000000:=by
 unfold s7;by_cases hw:w=[45]
 ·rw[if_pos hw];constructor
  ·intro h;obtain rfl:=aax h;exact⟨by rw[hw];rfl,by simp⟩
  rintro⟨h,_⟩;cases l with
  |nil=>rfl
  |cons n l=>
   rw[mE (by simp),hw]at h;exact absurd h.symm (LQ (n::l) (by simp))
 rw[if_neg hw,wu];constructor
 ·rintro⟨h1,h2,h3⟩;exact⟨by rw[mE h2];exact h1,h3⟩
 rintro⟨h1,h3⟩;have hl:l≠[]:=fun e=>by subst e;exact hw (by rw[h1];rfl)
 exact⟨by rw[←mE hl];exact h1,hl,h3⟩
theorem sh{a3 a5 a7 a9:List UInt8}{bk:Option (Int×Int)}{s:Step}:ke a3 a5 a7 a9 bk=some s↔
  a3=cq s.du∧a5=fI s.cZ∧a7=jR s.min s.max∧a9=fI s.next∧bk=some (s.back,s.dv)∧lB s.du∧s.cZ≠[]∧(∀n∈s.cZ,lB n)∧lB s.min∧lB s.max∧ ∀n∈s.next,lB n:=by
 unfold ke;constructor
 ·intro h;split at h
  ·rename_i r t mm nx bl h1 h2 h3 h4;obtain rfl:=aax h;obtain⟨e1,l1⟩:=jq.1 h1;obtain⟨e2,n2,l2⟩:=wu.1 h2;obtain⟨e3,l3,l4⟩:=sf.1 h3;obtain⟨e4,l5⟩:=Bu.1 h4;refine⟨?_,?_,?_,e4,rfl,⟨acz _,by show(r:Int)≤_;omega⟩,fun e=>n2 (CK.1 e),va l2,⟨acz _,by show(mm.1:Int)≤_;omega⟩,⟨acz _,by show(mm.2:Int)≤_;omega⟩,va l5⟩
   ·unfold cq;rw[abl];exact e1
   ·rw[mE n2];exact e2
   unfold jR cq;rw[abl,abl];exact e3
  cases h
 rintro⟨rfl,rfl,rfl,rfl,rfl,⟨h1,h2⟩,h3,h4,⟨h5,h6⟩,⟨h7,h8⟩,h9⟩;have e1:gP (cq s.du)=some s.du.toNat:=j_ (by omega);have e2:o5 (fI s.cZ)=some (s.cZ.map Int.toNat):=by
  rw[wu];refine⟨?_,by simpa using h3,fun n hn=>?_⟩
  ·unfold fI;rw[if_neg h3,abw];rfl
  obtain⟨m,hm,rfl⟩:=aaU.1 hn;have:=(h4 m hm).2;omega
 have e3:o6 (jR s.min s.max)=some (s.min.toNat,s.max.toNat):=sf.2 ⟨rfl,by omega,by omega⟩;have e4:s7 (fI s.next)=some (s.next.map Int.toNat):=by rw[Bu,sg h9];refine⟨rfl,fun n hn=>?_⟩;obtain⟨m,hm,rfl⟩:=aaU.1 hn;have:=(h9 m hm).2;omega
 rw[e1,e2,e3,e4];simp only;rw[sg h4,sg h9,abg h1,abg h5,abg h7]
theorem pT{c:UInt8}(h:fX c=false)(n:Int):c∉cq n:=Gf h _
theorem Hr{c d:UInt8}(hd:c≠d): ∀{ps:List (List UInt8)},(∀p∈ps,c∉p)→c∉dN d ps
 |[],_=>by simp[dN]
 |[x],h=>h x (by simp)
 |x::y::r,h=>by show c∉x++d::dN d (y::r);rw[aaJ,aav,not_or,not_or];exact⟨h x (by simp),hd,Hr hd fun p hp=>h p (by simp[hp])⟩
theorem LR{c:UInt8}(h:fX c=false)(h1:c≠44)(h2:c≠45)(l:List Int):c∉fI l:=by
 unfold fI;split
 ·simpa using h2
 exact Hr h1 fun p hp=>by obtain⟨n,_,rfl⟩:=aaU.1 hp;exact pT h n
theorem Bv{c:UInt8}(h:fX c=false)(h1:c≠46)(a b:Int):c∉jR a b:=by unfold jR;rw[aaJ,aav,aav,not_or,not_or,not_or];exact⟨pT h a,h1,h1,pT h b⟩
theorem LS{c:UInt8}(h:fX c=false)(h1:c≠44)(h2:c≠45)(h3:c≠46)(h4:c∉jc++gv++jQ++mS++mT++mU++i_)(i:Nat)(s:Step): ∀p∈rh i s,c∉p:=by
 simp only[aaJ,not_or]at h4;obtain⟨⟨⟨⟨⟨⟨k1,k2⟩,k3⟩,k4⟩,k5⟩,k6⟩,k7⟩:=h4;intro p hp;unfold rh at hp;have hd:=fun n=>pT h n;have hn:=fun l=>LR h h1 h2 l;have hr:=fun a b=>Bv h h3 a b;have hi:=Gf h i;rcases aaJ.1 hp with hp|hp
 ·simp only[aav,abi,or_false]at hp;rcases hp with rfl|rfl|rfl|rfl|rfl|rfl|rfl|rfl|rfl|rfl
  ·exact k1
  ·exact hi
  ·exact k2
  ·exact hd _
  ·exact k3
  ·exact hn _
  ·exact k4
  ·exact hr _ _
  ·exact k5
  exact hn _
 split at hp
 ·simp only[aav,abi,or_false]at hp;rcases hp with rfl|rfl|rfl|rfl
  ·exact k6
  ·exact hd _
  ·exact k7
  exact hd _
 cases hp
theorem Bw{i:Nat}{line:List UInt8}{s:Step}:fN i line=some s↔line=fJ i s∧LO s:=by
 unfold fN;constructor
 ·intro h;split at h
  ·rename_i a0 a1 a2 a3 a4 a5 a6 a7 a8 a9 hs;split at h
   ·rename_i hf;unfold lC at hf;simp only[aaA,beq_iff_eq]at hf;obtain⟨⟨⟨⟨⟨rfl,rfl⟩,rfl⟩,rfl⟩,rfl⟩,rfl⟩:=hf;obtain⟨rfl,rfl,rfl,rfl,hb,k1,k2,k3,k4,k5,k6⟩:=sh.1 h;simp only[aau,aaB]at hb;refine⟨?_,k1,k2,k3,k4,k5,k6,.inl ⟨hb.1.symm,hb.2.symm⟩⟩;unfold fJ rh;rw[if_neg (by rw[←hb.1];decide),aaI];exact((jC 32).1 hs).1
   cases h
  ·rename_i a0 a1 a2 a3 a4 a5 a6 a7 a8 a9 b0 b1 b2 b3 hs;split at h
   ·rename_i hf;obtain⟨hf,rfl,rfl⟩:=hf;unfold lC at hf;simp only[aaA,beq_iff_eq]at hf;obtain⟨⟨⟨⟨⟨rfl,rfl⟩,rfl⟩,rfl⟩,rfl⟩,rfl⟩:=hf;obtain⟨rfl,rfl,rfl,rfl,hb,k1,k2,k3,k4,k5,k6⟩:=sh.1 h;unfold wZ at hb;split at hb
    ·rename_i x y h1 h2;obtain⟨e1,l1⟩:=jq.1 h1;obtain⟨e2,l2⟩:=jq.1 h2;simp only[aau,aaB]at hb;refine⟨?_,k1,k2,k3,k4,k5,k6,.inr ⟨⟨by omega,by omega⟩,⟨by omega,by omega⟩⟩⟩;have f1:b1=cq s.back:=by unfold cq;rw[←hb.1,abl];exact e1
     have f2:b3=cq s.dv:=by unfold cq;rw[←hb.2,abl];exact e2
     unfold fJ rh;rw[if_pos (by omega),←f1,←f2];exact((jC 32).1 hs).1
    cases hb
   cases h
  cases h
 rintro⟨rfl,hN⟩;have hs:bD 32 (fJ i s)=rh i s:=(jC 32).2 ⟨rfl,by unfold rh;simp,LS rfl (by decide) (by decide) (by decide) (by decide) i s⟩;rw[hs];have hf:lC i jc (dec i) gv jQ mS mT=true:=by unfold lC;simp
 rcases hN.back with⟨h1,h2⟩|⟨⟨h1,RU⟩,⟨h2,RJ⟩⟩
 ·unfold rh;rw[if_neg (by rw[h1];decide),aaI];simp only;rw[if_pos hf,sh];exact⟨rfl,rfl,rfl,rfl,by rw[h1,h2],hN.du,hN.cZ,hN.tR,hN.min,hN.max,hN.next⟩
 unfold rh;rw[if_pos h1];simp only[aa0,aa1];rw[if_pos (by refine⟨hf,?_,?_⟩<;>trivial),sh];refine⟨rfl,rfl,rfl,rfl,?_,hN.du,hN.cZ,hN.tR,hN.min,hN.max,hN.next⟩;unfold wZ cq;rw[j_ (by omega),j_ (by omega)];simp only;rw[abg h1,abg h2]
theorem ri{line:List UInt8}{w:cz}:jD line=some w↔line=eG w∧lB w.src∧lB w.dst∧lB w.dv:=by
 unfold jD;constructor
 ·intro h;split at h
  ·rename_i a0 a1 a2 a3 hs;split at h
   ·rename_i h0;subst h0;split at h
    ·rename_i x y z h1 h2 h3;obtain⟨rfl,l1⟩:=jq.1 h1;obtain⟨rfl,l2⟩:=jq.1 h2;obtain⟨rfl,l3⟩:=jq.1 h3;obtain rfl:=aax h;exact⟨((jC 32).1 hs).1,⟨by show(0:Int)≤x;omega,by show(x:Int)≤_;omega⟩,⟨by show(0:Int)≤y;omega,by show(y:Int)≤_;omega⟩,⟨by show(0:Int)≤z;omega,by show(z:Int)≤_;omega⟩⟩
    cases h
   cases h
  cases h
 rintro⟨rfl,⟨h1,RU⟩,⟨h2,RJ⟩,⟨h3,h3'⟩⟩;have hs:bD 32 (eG w)=pS w:=(jC 32).2 ⟨rfl,by unfold pS;simp,fun p hp=>by
  unfold pS at hp;simp only[aav,abi,or_false]at hp;rcases hp with rfl|rfl|rfl|rfl
  ·decide
  ·exact pT rfl _
  ·exact pT rfl _
  exact pT rfl _⟩
 rw[hs];unfold pS;simp only[if_true];unfold cq;rw[j_ (by omega),j_ (by omega),j_ (by omega)];simp only;rw[abg h1,abg h2,abg h3]
theorem Bx{line:List UInt8}{a b:Int}:s8 line=some (a,b)↔line=iR a b∧lB a∧lB b:=by
 unfold s8;constructor
 ·intro h;split at h
  ·rename_i a0 a1 hs;split at h
   ·rename_i h0;subst h0;rw[abk]at h;obtain⟨⟨x,y⟩,h1,h2⟩:=h;obtain⟨rfl,l1,l2⟩:=sf.1 h1;simp only[aaB]at h2;obtain⟨rfl,rfl⟩:=h2;exact⟨((jC 32).1 hs).1,⟨by omega,by omega⟩,⟨by omega,by omega⟩⟩
   cases h
  cases h
 rintro⟨rfl,⟨h1,RU⟩,⟨h2,RJ⟩⟩;have hs:bD 32 (iR a b)=zA a b:=(jC 32).2 ⟨rfl,by unfold zA;simp,fun p hp=>by
  unfold zA at hp;simp only[aav,abi,or_false]at hp;rcases hp with rfl|rfl
  ·decide
  exact Bv rfl (by decide) _ _⟩
 rw[hs];unfold zA;simp only[if_true];have th:o6 (jR a b)=some (a.toNat,b.toNat):=sf.2 ⟨rfl,by omega,by omega⟩;rw[th];simp only[abn];rw[abg h1,abg h2]
def fY:Nat→List UInt8→Nat×List UInt8
 |n,[]=>(n,[])
 |n,b::t=>if n≤1000000∧fX b=true then fY (10*n+(b.toNat-48)) t else(n,b::t)
def oC(r:List UInt8):Bool:=(fY 0 r).2.length==r.length||(decide (1<r.length-(fY 0 r).2.length)&&r.head? ==some 48)||decide (1000000<(fY 0 r).1)
def eu(ok:Bool)(r:List UInt8):Nat×Bool×List UInt8:=if ok=true then((fY 0 r).1,!oC r,(fY 0 r).2)else(0,false,r)
def dK(w:List UInt8)(ok:Bool)(r:List UInt8):Bool×List UInt8:=if ok=true∧w.isPrefixOf r=true then(true,r.drop w.length)else(false,r)
def rj(r:List UInt8):Prop:=∀b t,r=b::t→fX b=false
theorem tS: ∀(r:List UInt8) (n:Nat),∃p,r=p++(fY n r).2∧p.all fX=true∧(fY n r).1=iQ n p∧((fY n r).1≤1000000→rj (fY n r).2)
 |[],n=>⟨[],rfl,rfl,rfl,fun _ b t h=>by cases h⟩
 |b::t,n=>by
  unfold fY;by_cases h:n≤1000000∧fX b=true
  ·rw[if_pos h];obtain⟨p,h1,h2,h3,h4⟩:=tS t (10*n+(b.toNat-48));exact⟨b::p,by rw[aa0,←h1],by rw[ab_,h.2,h2];rfl,h3,h4⟩
  rw[if_neg h];refine⟨[],rfl,rfl,rfl,fun hn b' t' e=>?_⟩;obtain⟨rfl,rfl⟩:=abY e;cases hd:fX b
  ·rfl
  exact absurd ⟨hn,hd⟩ h
theorem zB{r:List UInt8}(hr:rj r): ∀(p:List UInt8) (n:Nat),p.all fX=true→iQ n p≤1000000→fY n (p++r)=(iQ n p,r)
 |[],n,_,_=>by
  cases r with
  |nil=>rfl
  |cons b t=>
   show fY n (b::t)=_;unfold fY;rw[if_neg (fun h=>by rw[hr b t rfl]at h;cases h.2)];rfl
 |b::p,n,h,hv=>by
  rw[ab_,aaA]at h;have EK: ∀(t:List UInt8) (a:Nat),a≤iQ a t:=by
   intro t
   induction t with
   |nil=>intro a;exact aaz _
   |cons c t ih=>intro a;exact aaC (by omega) (ih (10*a+(c.toNat-48)))
  have h1:=EK p (10*n+(b.toNat-48));have TU:iQ (10*n+(b.toNat-48)) p≤1000000:=hv;show fY n (b::(p++r))=_;unfold fY;rw[if_pos ⟨by omega,h.1⟩,zB hr p _ h.2 TU];rfl
theorem eV{ok:Bool}{r r':List UInt8}{n:Nat}:eu ok r=(n,true,r')↔ok=true∧r=dec n++r'∧n≤1000000∧rj r':=by
 unfold eu;constructor
 ·intro h;split at h
  ·rename_i kQ;obtain⟨p,h1,h2,h3,h4⟩:=tS r 0;simp only[aaB,ab8]at h;obtain⟨e1,e2,e3⟩:=h;unfold oC at e2;simp only[acF,beq_eq_false_iff_ne,ne_eq,decide_eq_false_iff_not,Nat.not_lt,acE]at e2;obtain⟨⟨k1,k2⟩,k3⟩:=e2;rw[e3]at h1 k1 k2 h4;rw[e1]at h3 k3 h4;have hlen:r.length=p.length+r'.length:=by rw[h1,aal]
   have hc:canon p=true:=by
    unfold canon;rw[h2,abf];cases p with
    |nil=>simp at hlen;omega
    |cons b t=>
     cases t with
     |nil=>rfl
     |cons c t=>
      simp only[bne_iff_ne,ne_eq];intro e;subst e;rcases k2 with k2|k2
      ·simp only[aaw]at hlen;omega
      rw[h1]at k2;simp at k2
   refine⟨kQ,?_,k3,h4 k3⟩;rw[h3,show iQ 0 p=val p from rfl,Hq hc];exact h1
  simp at h
 rintro⟨rfl,rfl,hn,hd⟩;have hv:iQ 0 (dec n)=n:=CJ n;have hg:=zB hd (dec n) 0 (aa2.2 (pQ n)) (by rw[hv];exact hn);rw[if_pos rfl];have hb:oC (dec n++r')=false:=by
  unfold oC;rw[hg,hv];have fL:=pR n;have hl:0<(dec n).length:=abb.2 fL;simp only[acF,beq_eq_false_iff_ne,ne_eq,decide_eq_false_iff_not,Nat.not_lt,acE,aal];refine⟨⟨by omega,?_⟩,hn⟩;by_cases h1:(dec n).length=1
  ·left;omega
  right;cases hd:dec n with
  |nil=>exact absurd hd fL
  |cons b t=>
   have nv:0<n:=by refine Nat.pos_of_ne_zero fun h0=>?_;subst h0;rw[iU (by decide)]at h1;exact h1 rfl
   simp only[aa0,List.head?_cons,aau];intro e;subst e;exact Hp nv _ hd
 rw[hg,hb,hv];rfl
theorem eK{w:List UInt8}{ok:Bool}{r r':List UInt8}:dK w ok r=(true,r')↔ok=true∧r=w++r':=by
 unfold dK;constructor
 ·intro h;split at h
  ·rename_i hw;simp only[aaB,true_and]at h;obtain⟨t,ht⟩:=acm.1 hw.2;refine⟨hw.1,?_⟩;rw[←h,←ht,ack]
  simp at h
 rintro⟨rfl,rfl⟩;rw[if_pos ⟨rfl,acm.2 ⟨r',rfl⟩⟩,ack]
def jS:Nat→List Nat→Bool→List UInt8→List Nat×Bool×List UInt8
 |0,l,ok,r=>(l,ok,r)
 |k+1,l,ok,r=>if ok=true∧r.head? =some 44 then jS k (l++[(eu true (r.drop 1)).1]) (eu true (r.drop 1)).2.1 (eu true (r.drop 1)).2.2 else(l,ok,r)
def o7(ok:Bool)(r:List UInt8):List Nat×Bool×List UInt8:=jS r.length [(eu ok r).1] (eu ok r).2.1 (eu ok r).2.2
def pU(r:List UInt8):Prop:=rj r∧r.head? ≠some 44
theorem vb(ok:Bool)(r:List UInt8):(eu ok r).2.2.length≤r.length:=by
 unfold eu;split
 ·obtain⟨p,h1,_⟩:=tS r 0;have:=congrArg List.length h1;rw[aal]at this;show(fY 0 r).2.length≤_;omega
 exact aaz _
theorem By(c:UInt8)(x:List UInt8): ∀ps:List (List UInt8),ps≠[]→dN c (ps++[x])=dN c ps++c::x
 |[],h=>absurd rfl h
 |[_],_=>rfl
 |y::z::r,_=>by show y++c::dN c (z::r++[x])=(y++c::dN c (z::r))++c::x;rw[By c x (z::r) (by simp),aaG];rfl
theorem Gh: ∀(k:Nat) (l:List Nat) (r r':List UInt8) (m:List Nat),r.length≤k→rj r→(jS k l true r=(m,true,r')↔ ∃t:List Nat,m=l++t∧r=(t.map fun n=>44::dec n).flatten++r'∧(∀n∈t,n≤1000000)∧pU r'):=by
 intro k
 induction k with
 |zero=>
  intro l r r' m hk hd;obtain rfl:r=[]:=aa' (by omega);unfold jS;constructor
  ·intro h;simp only[aaB,true_and]at h;obtain⟨rfl,rfl⟩:=h;exact⟨[],by simp,rfl,by simp,hd,by simp⟩
  rintro⟨t,rfl,h2,_,_⟩;have h3:=congrArg List.length h2;cases t with
  |nil=>
   simp only[acy,ac_,aa1]at h2;subst h2;simp
  |cons n t=>simp at h2
 |succ k ih=>
  intro l r r' m hk hd;unfold jS;by_cases Nj:r.head? =some 44
  ·rw[if_pos ⟨rfl,Nj⟩];obtain⟨r1,rfl⟩: ∃r1,r=44::r1:=by
    cases r with
    |nil=>simp at Nj
    |cons b t=>simp only[List.head?_cons,aau]at Nj;exact⟨t,by rw[Nj]⟩
   simp only[ada,ab'];have hl:=vb true r1;cases hn:eu true r1 with
   |mk n rest=>
   obtain⟨wv,r2⟩:=rest;rw[hn]at hl;simp only at hl⊢;simp only[aaw]at hk;cases wv with
   |false=>
    have LU: ∀k l r,jS k l false r=(l,false,r):=by intro k l r;cases k<;>simp[jS]
    rw[LU];constructor
    ·intro h;simp at h
    rintro⟨t,rfl,h2,h3,h4⟩;cases t with
    |nil=>
     simp only[acy,ac_,aa1]at h2;rw[←h2]at h4;exact absurd rfl h4.2
    |cons x t=>
     exfalso;simp only[aa8,acK,aa0,ab1,true_and,aaG]at h2;have z8:rj ((t.map fun n=>44::dec n).flatten++r'):=by
      intro b u e;cases t with
      |nil=>exact h4.1 b u e
      |cons y t=>
       simp only[aa8,acK,aa0,ab1]at e;rw[←e.1];rfl
     have:=eV.2 (⟨rfl,h2,h3 x (by simp),z8⟩:_∧_∧_∧_);rw[hn]at this;simp at this
   |true=>
    obtain⟨_,e1,e2,e3⟩:=eV.1 hn;rw[ih (l++[n]) r2 r' m (by omega) e3];constructor
    ·rintro⟨t,rfl,h2,h3,h4⟩;refine⟨n::t,by simp,?_,fun y hy=>?_,h4⟩
     ·simp only[aa8,acK,aa0,aaG];rw[e1,h2]
     rcases aav.1 hy with rfl|hy
     ·exact e2
     exact h3 y hy
    rintro⟨t,rfl,h2,h3,h4⟩;cases t with
    |nil=>
     simp only[acy,ac_,aa1]at h2;rw[←h2]at h4;exact absurd rfl h4.2
    |cons x t=>
     simp only[aa8,acK,aa0,ab1,true_and,aaG]at h2;have z8:rj ((t.map fun n=>44::dec n).flatten++r'):=by
      intro b u e;cases t with
      |nil=>exact h4.1 b u e
      |cons y t=>
       simp only[aa8,acK,aa0,ab1]at e;rw[←e.1];rfl
     have:=eV.2 (⟨rfl,h2,h3 x (by simp),z8⟩:_∧_∧_∧_);rw[hn]at this;simp only[aaB,true_and]at this;obtain⟨rfl,rfl⟩:=this;exact⟨t,by simp,rfl,fun y hy=>h3 y (by simp[hy]),h4⟩
  rw[if_neg (fun h=>Nj h.2)];constructor
  ·intro h;simp only[aaB,true_and]at h;obtain⟨rfl,rfl⟩:=h;exact⟨[],by simp,rfl,by simp,hd,Nj⟩
  rintro⟨t,rfl,h2,_,_⟩;cases t with
  |nil=>
   simp only[acy,ac_,aa1]at h2;subst h2;simp
  |cons n t=>
   exfalso;refine Nj ?_;rw[h2];rfl
theorem o8(c:UInt8): ∀(n:Nat) (t:List Nat),dN c ((n::t).map dec)=dec n++(t.map fun n=>c::dec n).flatten
 |n,[]=>by simp[dN]
 |n,m::t=>by show dec n++c::dN c ((m::t).map dec)=_;rw[o8 c m t];simp
theorem wx{ok:Bool}{r r':List UInt8}{m:List Nat}:o7 ok r=(m,true,r')↔ok=true∧m≠[]∧r=dN 44 (m.map dec)++r'∧(∀n∈m,n≤1000000)∧pU r':=by
 unfold o7;have hl:=vb ok r;cases hn:eu ok r with
 |mk n rest=>
 obtain⟨wv,r1⟩:=rest;rw[hn]at hl;simp only at hl⊢;have z8: ∀(t:List Nat),pU r'→rj ((t.map fun n=>44::dec n).flatten++r'):=by
  intro t h4 b u e;cases t with
  |nil=>exact h4.1 b u e
  |cons y t=>
   simp only[aa8,acK,aa0,ab1]at e;rw[←e.1];rfl
 cases wv with
 |false=>
  have LU: ∀k l r,jS k l false r=(l,false,r):=by intro k l r;cases k<;>simp[jS]
  rw[LU];constructor
  ·intro h;simp at h
  rintro⟨rfl,h1,h2,h3,h4⟩;exfalso;cases m with
  |nil=>exact h1 rfl
  |cons x t=>
   rw[o8,aaG]at h2;have:=eV.2 (⟨rfl,h2,h3 x (by simp),z8 t h4⟩:_∧_∧_∧_);rw[hn]at this;simp at this
 |true=>
  obtain⟨kQ,e1,e2,e3⟩:=eV.1 hn;rw[Gh r.length [n] r1 r' m hl e3];constructor
  ·rintro⟨t,rfl,h2,h3,h4⟩;refine⟨kQ,by simp,?_,fun y hy=>?_,h4⟩
   ·rw[acr,o8,e1,h2,aaG]
   rcases aav.1 hy with rfl|hy
   ·exact e2
   exact h3 y hy
  rintro⟨_,h1,h2,h3,h4⟩;cases m with
  |nil=>exact absurd rfl h1
  |cons x t=>
   rw[o8,aaG]at h2;have:=eV.2 (⟨kQ,h2,h3 x (by simp),z8 t h4⟩:_∧_∧_∧_);rw[hn]at this;simp only[aaB,true_and]at this;obtain⟨rfl,rfl⟩:=this;exact⟨t,rfl,rfl,fun y hy=>h3 y (by simp[hy]),h4⟩
def ki(p:List UInt8)(ok:Bool)(r:List UInt8):Bool:=ok&&p.isPrefixOf r
def zC(ok:Bool)(r:List UInt8):List Nat×Bool×List UInt8:=if ki [45] ok r=true then([],dK [45] ok r)else o7 ok r
def Ay(ok:Bool)(r:List UInt8):Bool:=ok&&r.isEmpty
def zD(ok:Bool)(r:List UInt8):(Int×Int)×Bool×List UInt8:=
 if ki [32] ok r=true then
  match dK (32::mU++[32]) ok r with
  |(wv,r1)=>match eu wv r1 with
   |(b,w3,r2)=>match dK (32::i_++[32]) w3 r2 with
    |(Az,r3)=>match eu Az r3 with
     |(l,z7,r4)=>((b,l),z7,r4)
 else((-1,0),ok,r)
def f_(i:Nat)(line:List UInt8):Step×Bool:=
 match dK (jc++32::(dec i++32::(gv++[32]))) true line with
 |(wv,r1)=>match eu wv r1 with
  |(rc,w3,r2)=>match dK (32::jQ++[32]) w3 r2 with
   |(Az,r3)=>match o7 Az r3 with
    |(tl,z7,r4)=>match dK (32::mS++[32]) z7 r4 with
     |(LV,r5)=>match eu LV r5 with
      |(mn,IK,r6)=>match dK [46,46] IK r6 with
       |(TV,r7)=>match eu TV r7 with
        |(mx,RV,r8)=>match dK (32::mT++[32]) RV r8 with
         |(Pr,r9)=>match zC Pr r9 with
          |(nx,tT,E5)=>match zD tT E5 with
           |(bl,Ol,Vd)=>(⟨rc,ints tl,mn,mx,ints nx,bl.1,bl.2⟩,Ay Ol Vd)
def ek(line:List UInt8):cz×Bool:=
 match dK (fV++[32]) true line with
 |(wv,r1)=>match eu wv r1 with
  |(a,w3,r2)=>match dK [32] w3 r2 with
   |(Az,r3)=>match eu Az r3 with
    |(b,z7,r4)=>match dK [32] z7 r4 with
     |(LV,r5)=>match eu LV r5 with
      |(c,IK,r6)=>(⟨a,b,c⟩,Ay IK r6)
def et(line:List UInt8):(Int×Int)×Bool:=
 match dK (mD++[32]) true line with
 |(wv,r1)=>match eu wv r1 with
  |(a,w3,r2)=>match dK [46,46] w3 r2 with
   |(Az,r3)=>match eu Az r3 with
    |(b,z7,r4)=>((a,b),Ay z7 r4)
theorem Bz:rj []:=fun b t h=>by cases h
theorem zE{b:UInt8}{t:List UInt8}(h:fX b=false):rj (b::t):=fun c u e=>by obtain⟨rfl,_⟩:=abY e;exact h
theorem w4{b:UInt8}{t:List UInt8}(h:fX b=false)(h2:b≠44):pU (b::t):=⟨zE h,by simpa using h2⟩
theorem zF:pU []:=⟨Bz,by simp⟩
theorem zG{ok:Bool}{r:List UInt8}:Ay ok r=true↔ok=true∧r=[]:=by unfold Ay;rw[aaA,List.isEmpty_iff]
theorem BA{ok:Bool}{r r':List UInt8}{l:List Nat}(hr:pU r'):zC ok r=(l,true,r')↔ok=true∧r=fI (ints l)++r'∧ ∀n∈l,n≤1000000:=by
 unfold zC;by_cases hb:ki [45] ok r=true
 ·rw[if_pos hb];unfold ki at hb;rw[aaA]at hb;constructor
  ·intro h;simp only[aaB]at h;obtain⟨rfl,h⟩:=h;obtain⟨h1,h2⟩:=eK.1 h;exact⟨h1,h2,by simp⟩
  rintro⟨h1,h2,h3⟩;cases l with
  |nil=>
   have:dK [45] ok r=(true,r'):=eK.2 ⟨h1,h2⟩;rw[this]
  |cons n l=>
   exfalso;rw[mE (by simp),o8,aaG]at h2;obtain⟨t,ht⟩:=acm.1 hb.2;rw[h2]at ht;cases hd:dec n with
   |nil=>exact pR n hd
   |cons b u=>
    rw[hd]at ht;have hx:=pQ n b (by rw[hd];simp);simp only[aa0,ab1]at ht;rw[←ht.1]at hx;cases hx
 rw[if_neg hb,wx];constructor
 ·rintro⟨h1,h2,h3,h4,h5⟩;exact⟨h1,by rw[mE h2];exact h3,h4⟩
 rintro⟨h1,h2,h3⟩;have hl:l≠[]:=by intro e;subst e;refine hb ?_;unfold ki;rw[h1,h2];exact acm.2 ⟨r',rfl⟩
 exact⟨h1,hl,by rw[←mE hl];exact h2,h3,hr⟩
def vc(bl:Int×Int):List UInt8:=if 0≤bl.1 then(32::mU++[32])++(cq bl.1++((32::i_++[32])++cq bl.2))else []
theorem BB{ok:Bool}{r:List UInt8}{bl:Int×Int}:zD ok r=(bl,true,[])↔ok=true∧r=vc bl∧((bl=(-1,0))∨(lB bl.1∧lB bl.2)):=by
 unfold zD;by_cases hb:ki [32] ok r=true
 ·rw[if_pos hb];unfold ki at hb;rw[aaA]at hb;cases h1:dK (32::mU++[32]) ok r with
  |mk wv r1=>
  simp only;cases h2:eu wv r1 with
  |mk b x2=>
  obtain⟨w3,r2⟩:=x2;simp only;cases h3:dK (32::i_++[32]) w3 r2 with
  |mk Az r3=>
  simp only;cases h4:eu Az r3 with
  |mk l x4=>
  obtain⟨z7,r4⟩:=x4;simp only;constructor
  ·intro h;simp only[aaB]at h;obtain⟨rfl,rfl,rfl⟩:=h;obtain⟨rfl,e4,l4,_⟩:=eV.1 h4;obtain⟨rfl,e3⟩:=eK.1 h3;obtain⟨rfl,e2,l2,_⟩:=eV.1 h2;obtain⟨k,e1⟩:=eK.1 h1;refine⟨k,?_,.inr ⟨⟨acz _,by show(b:Int)≤_;omega⟩,⟨acz _,by show(l:Int)≤_;omega⟩⟩⟩;unfold vc cq;rw[if_pos (acz _),abl,abl,e1,e2,e3,e4,aaI]
  rintro⟨k,e,Xn⟩;rcases Xn with rfl|⟨⟨p1,p2⟩,⟨p3,p4⟩⟩
  ·exfalso;rw[e]at hb;exact absurd hb.2 (by decide)
  unfold vc at e;rw[if_pos p1]at e;have q1:=eK.2 (⟨k,e⟩:_∧_);rw[h1]at q1;simp only[aaB]at q1;obtain⟨rfl,rfl⟩:=q1;have q2:=eV.2 (⟨rfl,rfl,(by omega:bl.1.toNat≤1000000),zE rfl⟩:_∧(cq bl.1++((32::i_++[32])++cq bl.2))=_∧_∧_);rw[h2]at q2;simp only[aaB]at q2;obtain⟨rfl,rfl,rfl⟩:=q2;have q3:=eK.2 (⟨rfl,rfl⟩:true=true∧(32::i_++[32])++cq bl.2=_);rw[h3]at q3;simp only[aaB]at q3;obtain⟨rfl,rfl⟩:=q3;have q4:=eV.2 (⟨rfl,(aaI _).symm,(by omega:bl.2.toNat≤1000000),Bz⟩:true=true∧cq bl.2=_∧_∧_);rw[h4]at q4;simp only[aaB]at q4;obtain⟨rfl,rfl,rfl⟩:=q4;rw[abg p1,abg p3]
 rw[if_neg hb];constructor
 ·intro h;simp only[aaB]at h;obtain⟨rfl,rfl,rfl⟩:=h;exact⟨rfl,rfl,.inl rfl⟩
 rintro⟨k,e,Xn⟩;rcases Xn with rfl|⟨⟨p1,_⟩,_⟩
 ·rw[k,e];rfl
 exfalso;refine hb ?_;unfold vc at e;rw[if_pos p1]at e;unfold ki;rw[k,e];rfl
theorem s9(i:Nat)(s:Step):fJ i s=(jc++32::(dec i++32::(gv++[32])))++(cq s.du++((32::jQ++[32])++(fI s.cZ++((32::mS++[32])++(cq s.min++([46,46]++(cq s.max++((32::mT++[32])++(fI s.next++vc (s.back,s.dv)))))))))):=by
 unfold fJ rh vc jR;by_cases h:0≤s.back
 ·rw[if_pos h,if_pos h];simp[dN]
 rw[if_neg h,if_neg h];simp[dN]
theorem zH{bl:Int×Int}:pU (vc bl):=by
 unfold vc;split
 ·exact w4 rfl (by decide)
 exact zF
theorem jT{n:Nat}{a:Int}(h:(n:Int)=a)(hn:n≤1000000):lB a∧dec n=cq a:=by subst h;exact⟨⟨by omega,by omega⟩,by unfold cq;rw[abl]⟩
def Gi(r:List UInt8):Bool:=match r with|[]=>true|b::_=> !fX b
def CL(r:List UInt8):Bool:=match r with|[]=>true|b::_=> !fX b&&b !=44
theorem IL{r:List UInt8}(h:Gi r=true):rj r:=by intro b t e;subst e;simpa [Gi]using h
theorem Gj{r:List UInt8}(h:CL r=true):pU r:=by
 cases r with
 |nil=>exact zF
 |cons b t=>
  simp only[CL,aaA,ab8,bne_iff_ne,ne_eq]at h;exact w4 h.1 h.2
theorem iV{w r' Ps:List UInt8}{Pt:Bool}(h:dK w true (w++r')=(Pt,Ps)):Pt=true∧Ps=r':=by rw[eK.2 ⟨rfl,rfl⟩]at h;simp only[aaB]at h;exact⟨h.1.symm,h.2.symm⟩
theorem mF{x r' Ps:List UInt8}{n n':Nat}{Pt:Bool}(h:eu true (x++r')=(n',Pt,Ps))(hx:x=dec n)(hn:n≤1000000)(hd:Gi r'=true):n'=n∧Pt=true∧Ps=r':=by rw[eV.2 ⟨rfl,by rw[hx],hn,IL hd⟩]at h;simp only[aaB]at h;exact⟨h.1.symm,h.2.1.symm,h.2.2.symm⟩
theorem IM{x r' Ps:List UInt8}{l l':List Nat}{Pt:Bool}(h:o7 true (x++r')=(l',Pt,Ps))(hx:x=dN 44 (l.map dec))(h0:l≠[])(hn: ∀n∈l,n≤1000000)(hd:CL r'=true):l'=l∧Pt=true∧Ps=r':=by rw[wx.2 ⟨rfl,h0,by rw[hx],hn,Gj hd⟩]at h;simp only[aaB]at h;exact⟨h.1.symm,h.2.1.symm,h.2.2.symm⟩
theorem oD{i:Nat}{line:List UInt8}{s:Step}:f_ i line=(s,true)↔line=fJ i s∧LO s:=by
 rw[s9];unfold f_;cases h1:dK (jc++32::(dec i++32::(gv++[32]))) true line with
 |mk wv r1=>
 simp only;cases h2:eu wv r1 with
 |mk rc x2=>
 obtain⟨w3,r2⟩:=x2;simp only;cases h3:dK (32::jQ++[32]) w3 r2 with
 |mk Az r3=>
 simp only;cases h4:o7 Az r3 with
 |mk tl x4=>
 obtain⟨z7,r4⟩:=x4;simp only;cases h5:dK (32::mS++[32]) z7 r4 with
 |mk LV r5=>
 simp only;cases h6:eu LV r5 with
 |mk mn x6=>
 obtain⟨IK,r6⟩:=x6;simp only;cases h7:dK [46,46] IK r6 with
 |mk TV r7=>
 simp only;cases h8:eu TV r7 with
 |mk mx x8=>
 obtain⟨RV,r8⟩:=x8;simp only;cases h9:dK (32::mT++[32]) RV r8 with
 |mk Pr r9=>
 simp only;cases ue:zC Pr r9 with
 |mk nx x10=>
 obtain⟨tT,E5⟩:=x10;simp only;cases Ni:zD tT E5 with
 |mk bl x11=>
 obtain⟨Ol,Vd⟩:=x11;simp only;constructor
 ·intro h;simp only[aaB]at h;obtain⟨rfl,he⟩:=h;obtain⟨rfl,rfl⟩:=zG.1 he;obtain⟨rfl,U9,l11⟩:=BB.1 Ni;have Xo:pU E5:=by rw[U9];exact zH
  obtain⟨rfl,W8,l10⟩:=(BA Xo).1 ue;obtain⟨rfl,e9⟩:=eK.1 h9;obtain⟨rfl,e8,l8,_⟩:=eV.1 h8;obtain⟨rfl,e7⟩:=eK.1 h7;obtain⟨rfl,e6,l6,_⟩:=eV.1 h6;obtain⟨rfl,e5⟩:=eK.1 h5;obtain⟨rfl,n4,e4,l4,_⟩:=wx.1 h4;obtain⟨rfl,e3⟩:=eK.1 h3;obtain⟨rfl,e2,l2,_⟩:=eV.1 h2;obtain⟨_,e1⟩:=eK.1 h1;refine⟨?_,(jT rfl l2).1,fun e=>n4 (CK.1 e),va l4,(jT rfl l6).1,(jT rfl l8).1,va l10,?_⟩
  ·show line=_++(cq rc++(_++(fI (ints tl)++(_++(cq mn++(_++(cq mx++(_++(fI (ints nx)++vc bl)))))))));rw[←(jT rfl l2).2,←(jT rfl l6).2,←(jT rfl l8).2,mE n4,←U9,←W8,←e9,←e8,←e7,←e6,←e5,←e4,←e3,←e2,←e1]
  rcases l11 with rfl|h
  ·exact .inl ⟨rfl,rfl⟩
  exact .inr h
 rintro⟨e,hN⟩;rw[e]at h1;obtain⟨rfl,rfl⟩:=iV h1;obtain⟨b1,Za⟩:=hN.du;obtain⟨b2,Zb⟩:=hN.min;obtain⟨b3,b3'⟩:=hN.max;obtain⟨rfl,rfl,rfl⟩:=mF h2 rfl (by omega) rfl;obtain⟨rfl,rfl⟩:=iV h3;have ht:fI s.cZ=dN 44 ((s.cZ.map Int.toNat).map dec):=by unfold fI;rw[if_neg hN.cZ,abw];rfl
 have Zc: ∀{l:List Int},(∀n∈l,lB n)→ ∀n∈l.map Int.toNat,n≤1000000:=by intro l h n hn;obtain⟨m,hm,rfl⟩:=aaU.1 hn;have:=(h m hm).2;omega
 obtain⟨rfl,rfl,rfl⟩:=IM h4 ht (by simpa using hN.cZ) (Zc hN.tR) rfl;obtain⟨rfl,rfl⟩:=iV h5;obtain⟨rfl,rfl,rfl⟩:=mF h6 rfl (by omega) rfl;obtain⟨rfl,rfl⟩:=iV h7;obtain⟨rfl,rfl,rfl⟩:=mF h8 rfl (by omega) rfl;obtain⟨rfl,rfl⟩:=iV h9;have Xp:=(BA (l:=s.next.map Int.toNat) (zH (bl:=(s.back,s.dv)))).2 ⟨rfl,by rw[sg hN.next],Zc hN.next⟩;rw[ue]at Xp;simp only[aaB]at Xp;obtain⟨rfl,rfl,rfl⟩:=Xp;have Xq:=(BB (bl:=(s.back,s.dv))).2 ⟨rfl,rfl,by
  rcases hN.back with⟨h,h'⟩|h
  ·left;rw[h,h']
  exact .inr h⟩
 rw[Ni]at Xq;simp only[aaB]at Xq;obtain⟨rfl,rfl,rfl⟩:=Xq;rw[sg hN.tR,sg hN.next,abg b1,abg b2,abg b3];rfl
theorem qg{line:List UInt8}{w:cz}:ek line=(w,true)↔line=eG w∧lB w.src∧lB w.dst∧lB w.dv:=by
 have LW:eG w=(fV++[32])++(cq w.src++([32]++(cq w.dst++([32]++(cq w.dv++[]))))):=by unfold eG pS;simp[dN]
 rw[LW];unfold ek;cases h1:dK (fV++[32]) true line with
 |mk wv r1=>
 simp only;cases h2:eu wv r1 with
 |mk a x2=>
 obtain⟨w3,r2⟩:=x2;simp only;cases h3:dK [32] w3 r2 with
 |mk Az r3=>
 simp only;cases h4:eu Az r3 with
 |mk b x4=>
 obtain⟨z7,r4⟩:=x4;simp only;cases h5:dK [32] z7 r4 with
 |mk LV r5=>
 simp only;cases h6:eu LV r5 with
 |mk c x6=>
 obtain⟨IK,r6⟩:=x6;simp only;constructor
 ·intro h;simp only[aaB]at h;obtain⟨rfl,he⟩:=h;obtain⟨rfl,rfl⟩:=zG.1 he;obtain⟨rfl,e6,l6,_⟩:=eV.1 h6;obtain⟨rfl,e5⟩:=eK.1 h5;obtain⟨rfl,e4,l4,_⟩:=eV.1 h4;obtain⟨rfl,e3⟩:=eK.1 h3;obtain⟨rfl,e2,l2,_⟩:=eV.1 h2;obtain⟨_,e1⟩:=eK.1 h1;refine⟨?_,(jT rfl l2).1,(jT rfl l4).1,(jT rfl l6).1⟩;show line=_++(cq a++(_++(cq b++(_++(cq c++[])))));rw[←(jT rfl l2).2,←(jT rfl l4).2,←(jT rfl l6).2,←e6,←e5,←e4,←e3,←e2,←e1]
 rintro⟨e,⟨b1,Za⟩,⟨b2,Zb⟩,⟨b3,b3'⟩⟩;rw[e]at h1;obtain⟨rfl,rfl⟩:=iV h1;obtain⟨rfl,rfl,rfl⟩:=mF h2 rfl (by omega) rfl;obtain⟨rfl,rfl⟩:=iV h3;obtain⟨rfl,rfl,rfl⟩:=mF h4 rfl (by omega) rfl;obtain⟨rfl,rfl⟩:=iV h5;obtain⟨rfl,rfl,rfl⟩:=mF h6 rfl (by omega) rfl;rw[abg b1,abg b2,abg b3];rfl
theorem s_{line:List UInt8}{a b:Int}:et line=((a,b),true)↔line=iR a b∧lB a∧lB b:=by
 have LW:iR a b=(mD++[32])++(cq a++([46,46]++(cq b++[]))):=by unfold iR zA jR;simp[dN]
 rw[LW];unfold et;cases h1:dK (mD++[32]) true line with
 |mk wv r1=>
 simp only;cases h2:eu wv r1 with
 |mk x x2=>
 obtain⟨w3,r2⟩:=x2;simp only;cases h3:dK [46,46] w3 r2 with
 |mk Az r3=>
 simp only;cases h4:eu Az r3 with
 |mk y x4=>
 obtain⟨z7,r4⟩:=x4;simp only;constructor
 ·intro h;simp only[aaB]at h;obtain⟨⟨rfl,rfl⟩,he⟩:=h;obtain⟨rfl,rfl⟩:=zG.1 he;obtain⟨rfl,e4,l4,_⟩:=eV.1 h4;obtain⟨rfl,e3⟩:=eK.1 h3;obtain⟨rfl,e2,l2,_⟩:=eV.1 h2;obtain⟨_,e1⟩:=eK.1 h1;refine⟨?_,(jT rfl l2).1,(jT rfl l4).1⟩;rw[←(jT rfl l2).2,←(jT rfl l4).2,←e4,←e3,←e2,←e1]
 rintro⟨e,⟨b1,Za⟩,⟨b2,Zb⟩⟩;rw[e]at h1;obtain⟨rfl,rfl⟩:=iV h1;obtain⟨rfl,rfl,rfl⟩:=mF h2 rfl (by omega) rfl;obtain⟨rfl,rfl⟩:=iV h3;obtain⟨rfl,rfl,rfl⟩:=mF h4 rfl (by omega) rfl;rw[abg b1,abg b2];rfl
theorem rv{l:List UInt8}(h: ∀v,Lib.atoiAll l= .ok v→0≤v→v≤1000000→Lib.itoa v≠l):gP l=none:=by
 cases hn:gP l with
 |none=>rfl
 |some n=>
  obtain⟨h1,h2,h3⟩:=Rc hn;exact absurd h2 (h _ h1 (by omega) (by omega))
def oG:List PanicEntry:=[{v:=.iface 288 (.agg #[]),recovered:=false}]
theorem eP(b:Bool)(g:G):CallsIn Wd 0 prog 261 #[.bool b] g.w (zZ g (fun _ r=>r= .tuple #[]∧b=true) oG (b=false)):=by
 have hs:=St.start g;refine enter func261 rfl ntmps261 rfl ?_;cases b with
 |true=>
  exact aD rfl<|bI rfl<|ar<|nd rfl (.inl (hs.ret ⟨rfl,rfl⟩))
 |false=>
  exact aD rfl<|bZ rfl<|ah<|hZ [] [] [] rfl<|aN rfl rfl<|N9 rfl rfl rfl rfl<|gw rfl<|Is rfl rfl<|dO (zZ.xB rfl (bW.refl g))
theorem lF(s:List UInt8)(g:G)(hs:s.length≤1000000)(hF:kr g):CallsIn Wd 0 prog 264 #[.string (bs s)] g.w (zZ g (fun _ r=> ∃n:Nat,gP s=some n∧r=vI n) oG (gP s=none)):=by
 have hlen:=hs;clear hs;have hs:=St.start g;refine enter func264 rfl ntmps264 rfl<|aD rfl<|ck 1 rfl<|d_ rfl (Rt s _ hlen hF) ?_;rintro g1 _ aH ⟨x,err,rfl,hv⟩;replace hs:=hs.call aH;have PF:=hF.mono aH.le;cases ha:Lib.atoiAll s with
 |ok x0=>
  rw[ha]at hv;obtain⟨rfl,rfl⟩:=hv;refine aF rfl<|ck 1 rfl<|aN rfl rfl<|qX (neg:=false) rfl rfl rfl rfl rfl<|Wp 5 rfl ?_;by_cases h0:0≤x
  ·refine bd 16 (b':=true) (by simp[h0]) rfl<|Wp 4 rfl ?_;by_cases h1:x≤1000000
   ·refine bd 20 (b':=true) (by simp[h1]) rfl<|Wp 1 rfl<|d_ rfl (Mh x _ (by unfold jJ;omega) PF) ?_;rintro g2 _ FE rfl;replace hs:=hs.call FE;refine Wp 3 rfl ?_;by_cases h2:Lib.itoa x=s
    ·refine bd 25 (b':=true) (by rw[cH,cH];simp[h2]) rfl<|so rfl (eP true _) ?_ fun h=>(by cases h)
     rintro g3 _ fT ⟨rfl,_⟩;replace hs:=hs.call fT;refine bE<|aD rfl<|au<|eC rfl (.inl (hs.ret ⟨x.toNat,LM ha h0 h1 h2,?_⟩));show Value.int .i64 x=_;rw[abg h0]
    refine bd 25 (b':=false) (by rw[cH,cH];simp[h2]) rfl<|so rfl (eP false _) ?_ ?_
    ·rintro g3 _ fT ⟨_,hc⟩;cases hc
    intro _ g3 fT;replace hs:=hs.call fT;exact iG<|dO (zZ.xB (rv fun v hv=>by rw[ha]at hv;cases hv;exact fun _ _=>h2) hs.p9)
   refine bd 20 (b':=false) (by simp[h1]) rfl<|Wp 5 rfl<|so rfl (eP false _) ?_ ?_
   ·rintro g3 _ fT ⟨_,hc⟩;cases hc
   intro _ g3 fT;replace hs:=hs.call fT;exact iG<|dO (zZ.xB (rv fun v hv=>by rw[ha]at hv;cases hv;exact fun _ h=>absurd h h1) hs.p9)
  refine bd 16 (b':=false) (by simp[h0]) rfl<|Wp 9 rfl<|so rfl (eP false _) ?_ ?_
  ·rintro g3 _ fT ⟨_,hc⟩;cases hc
  intro _ g3 fT;replace hs:=hs.call fT;exact iG<|dO (zZ.xB (rv fun v hv=>by rw[ha]at hv;cases hv;exact fun h=>absurd h h0) hs.p9)
 |range=>
  rw[ha]at hv;obtain⟨t,p,rfl⟩:=hv;refine aF rfl<|ck 1 rfl<|aN rfl rfl<|qX (neg:=false) rfl rfl rfl rfl rfl<|Wp 14 rfl<|so rfl (eP false _) ?_ ?_
  ·rintro g3 _ fT ⟨_,hc⟩;cases hc
  intro _ g3 fT;replace hs:=hs.call fT;exact iG<|dO (zZ.xB (rv fun v hv=>by rw[ha]at hv;cases hv) hs.p9)
 |_=>
  rw[ha]at hv;obtain⟨t,p,rfl⟩:=hv;refine aF rfl<|ck 1 rfl<|aN rfl rfl<|qX (neg:=false) rfl rfl rfl rfl rfl<|Wp 14 rfl<|so rfl (eP false _) ?_ ?_
  ·rintro g3 _ fT ⟨_,hc⟩;cases hc
  intro _ g3 fT;replace hs:=hs.call fT;exact iG<|dO (zZ.xB (rv fun v hv=>by rw[ha]at hv;cases hv) hs.p9)
set_option maxHeartbeats 2000000
theorem pb(c:UInt8)(s:List UInt8):(bD c s).length≤s.length+1:=by
 induction s with
 |nil=>simp[bD]
 |cons b t ih=>
  unfold bD;split
  ·simp only[aaw];omega
  split
  ·simp
  rename_i x r h;rw[h]at ih;simp only[aaw]at ih⊢;omega
theorem mc(c:UInt8)(s:List UInt8): ∀p∈bD c s,p.length≤s.length:=by
 induction s with
 |nil=>simp[bD]
 |cons b t ih=>
  unfold bD;split
  ·intro p hp;rcases aav.1 hp with rfl|hp
   ·simp
   have:=ih p hp;simp only[aaw];omega
  split
  ·simp
  rename_i x r h;rw[h]at ih;intro p hp;rcases aav.1 hp with rfl|hp
  ·have:=ih x (by simp);simp only[aaw];omega
  have:=ih p (aaR _ hp);simp only[aaw];omega
theorem CU{α:Type}{l:List (Option α)}{k:Nat}(h:l[k]? =some none):ni l=none:=by
 cases ha:ni l with
 |none=>rfl
 |some xs=>
  rw[od.1 ha,abd]at h;cases hx:xs[k]? <;>rw[hx]at h<;>cases h
theorem Mq(s p:List UInt8):(Lib.cut s p).1.length≤s.length:=by
 unfold Lib.cut;split
 ·show(s.take _).length≤_;rw[aat];omega
 exact aaz _
theorem Mr(s p:List UInt8):(Lib.cut s p).2.1.length≤s.length:=by
 unfold Lib.cut;split
 ·show(s.drop _).length≤_;rw[aaM];omega
 exact aar _
theorem Ms(s:List UInt8):o6 s=match Lib.cut s [46,46]with
  |(a,b,true)=>(match gP a,gP b with
   |some x,some y=>some (x,y)
   |_,_=>none)
  |(_,_,false)=>none:=by
 unfold o6 Lib.cut;by_cases h:Lib.index s [46,46]<0
 ·rw[if_pos h,if_neg (by omega)]
 rw[if_neg h,if_pos (by omega)];rfl
theorem Mj(s:List UInt8)(g:G)(hlen:s.length≤1000000)(hF:kr g):
  CallsIn Wd 0 prog 262 #[.string (bs s)] g.w (zZ g (fun _ r=> ∃a b:Nat,o6 s=some (a,b)∧r= .tuple #[vI a,vI b]) oG (o6 s=none)):=by
 have hs:=St.start g;refine enter func262 rfl ntmps262 rfl<|aD rfl<|ck 1 rfl<|d_ rfl (Us s [46,46] _ hlen hF) ?_;rintro g1 _ aH rfl;replace hs:=hs.call aH;have PF:=hF.mono aH.le;have XX:(Lib.cut s [46,46]).1.length≤1000000:=aaC (Mq s [46,46]) hlen;have XY:(Lib.cut s [46,46]).2.1.length≤1000000:=aaC (Mr s [46,46]) hlen;have th:=Ms s;generalize Lib.cut s [46,46]=q at*;obtain⟨a,b,ok⟩:=q;cases ok with
 |false=>
  refine aF rfl<|ck 1 rfl<|so rfl (eP false _) ?_ ?_
  ·rintro g3 _ fT ⟨_,hc⟩;cases hc
  intro _ g3 fT;replace hs:=hs.call fT;exact iG<|dO (zZ.xB (th) hs.p9)
 |true=>
  refine aF rfl<|ck 1 rfl<|so rfl (eP true _) ?_ fun h=>(by cases h)
  rintro g3 _ fT ⟨rfl,_⟩;replace hs:=hs.call fT;have ag:=fT.le;have PF:=PF.mono fT.le;refine bE<|ck 1 rfl<|so rfl (lF a _ XX PF) ?_ ?_
  ·rintro g4 _ nN ⟨n,hn,rfl⟩;replace hs:=hs.call nN;have PF:=PF.mono nN.le;refine Wp 1 rfl<|so rfl (lF b _ XY PF) ?_ ?_
   ·rintro g5 _ sQ ⟨m,hm,rfl⟩;replace hs:=hs.call sQ;refine aF rfl<|au<|uv rfl rfl rfl (.inl (hs.ret ⟨n,m,?_,rfl⟩));rw[th];simp only[hn,hm]
   intro hn g5 sQ;replace hs:=hs.call sQ;exact iG<|dO (zZ.xB (by rw[th];simp only[hn];split<;>first|rfl|(rename_i h1 h2;cases h2)) hs.p9)
  intro hn g5 sQ;replace hs:=hs.call sQ;exact iG<|dO (zZ.xB (by rw[th];simp only[hn]) hs.p9)
theorem Mi(s:List UInt8)(g:G)(hlen:s.length≤1000000)(hF:kr g):
  CallsIn Wd 0 prog 265 #[.string (bs s)] g.w (zZ g (fun g' r=> ∃ns,o5 s=some ns∧Rs g' r (ints ns)) oG (o5 s=none)):=by
 have hs:=St.start g;have aj:=G.le.refl g;refine enter func265 rfl ntmps265 rfl<|aD rfl<|aD rfl<|ak<|ck 1 rfl<|d_ rfl (CT s 44 _ hlen hF) fun g1 vo aH AR=>?_;obtain⟨gz,gX,dk,iw,aA⟩:=hs.lS aH AR;have ag:=aH.le.trans iw;rw[←gX];replace hs:=dk;clear dk AR;replace aj:=G.le.trans aj ag;have Fv:=pb 44 s;have ud:=mc 44 s;have Mz:o5 s=ni ((bD 44 s).map gP):=rfl;generalize bD 44 s=ps at*;obtain⟨pa,pc,rfl⟩:=aA.isSlice;replace hs:=hs.eM 3 1 none;have Je:=aj;have MO:(ps.map xU.mk).length=ps.length:=aaS _;have Mm:Rs gz (.slice pa ps.length pc) (ps.map xU.mk):=by have h:=aA;rw[MO]at h;exact h
 clear aA;rw[MO];refine aF rfl<|aw ?_
 refine aZ (fun m a' w=> ∃(k:Nat) (ns:List Nat) (ra:Option Addr) (rc:Nat) (g':G),w=g'.w∧St g g' [.row 3 1 (.slice ra ns.length rc) ns.length ((ints ns).map (Value.int .i64))]∧G.le gz g'∧k≤ps.length∧m=ps.length-k∧ns.length=k∧(ps.take k).map gP=ns.map some∧
  Fr 20 [] [(3,.slice ra ns.length rc),(7,.slice pa ps.length pc),(8,vI ps.length),(9,vI k)] a') ps.length (fun a' ha=>⟨0,[],none,0,gz,rfl,hs,G.le.refl _,aar _,rfl,rfl,rfl,ha.kp rfl⟩) ?_
 clear hs aj;rintro m a' _ ⟨k,ns,ra,rc,g',rfl,hs,kS,hk,rfl,YR,Sn,dT⟩;have aA:=Mm.mono kS;have aj:=Je.trans kS;revert a';refine bT<|aD rfl<|ak ?_;by_cases aV:k<ps.length
 ·refine aG (b:=decide ((k:Int)<(ps.length:Int))) (by simp;omega) rfl<|ar<|ai<|ak<|aw<|cO<|fP (y:=⟨ps[k]⟩) aA (by simp[dq,aV]) rfl ?_;rintro b p ys aK rfl;refine dE 1 [.e aK 0] rfl<|aF rfl<|ah<|Wp 2 rfl<|so rfl (lF ps[k] _ (aaC (ud _ (aaQ aV)) hlen) (hF.mono aj)) ?_ ?_
  ·rintro g4 _ nN ⟨n,hn,rfl⟩;replace hs:=hs.call nN;replace kS:=kS.trans nN.le;refine iX [(0,vI n)] [vI n] hs rfl rfl fun Vy Vz hs ag=>?_;replace kS:=kS.trans ag;refine aN rfl rfl<|ba T.ok 1 rfl hs rfl rfl rfl rfl rfl rfl rfl (by decide) rfl (Src.dZ (hs.own 0 _ rfl).1).2 (by simp[Value.oneCell']) (by show(ns.length+1)*8≤_;omega) (by unfold maxLen;show ns.length+1≤_;omega) fun a9 c9 g9 hs ag=>?_;replace kS:=kS.trans ag;replace hs:=hs.drop 0;refine Wp 1 rfl<|an<|aX<|ai<|ah<|Wp 2 rfl<|an<|fun a ha=>⟨ps.length-(k+1),by omega,k+1,ns++[n],a9,c9,g9,rfl,?_,kS,by omega,rfl,by simp[YR],?_,ha.keep ⟨?_,rfl,rfl,kW rfl,trivial⟩⟩
   ·have e1:(ints (ns++[n])).map (Value.int .i64)=(ints ns).map (Value.int .i64)++[vI n]:=by simp[ints]
    rw[e1,aal];exact hs
   ·rw[aaV,aa3,Sn,aas aV];simp[hn]
   rw[aal];rfl
  intro hn g5 sQ;replace hs:=hs.call sQ;exact iG<|dO (zZ.xB (by rw[Mz];exact CU (k:=k) (by rw[abd,aas aV];simp[hn])) hs.p9)
 refine bg (b:=decide ((k:Int)<(ps.length:Int))) (by simp;omega) rfl<|aJ<|aM<|aM<|b_<|ai<|aD rfl ?_;obtain rfl:k=ps.length:=by omega
 obtain⟨gy,IW,Jg,L6,ph⟩:=hs.cD (α:=Int) (xs:=ints ns) (i:=0) rfl (cR.ints _ _);rw[←IW];refine au<|eC rfl (.inl (Jg.ret ⟨ns,?_,?_⟩))
 ·rw[Mz];rw[aa_]at Sn;exact od.2 Sn
 have e:(ints ns).length=ns.length:=by simp[ints]
 rw[←e];rw[←e]at ph;exact ph
def jG(fixed l:List (List UInt8)):Prop:=fixed.length≤l.length∧ ∀(i:Nat) (w:List UInt8),fixed[i]? =some w→w=[]∨l[i]? =some w
theorem xY:(⟨#[]⟩:ByteArray).toList=[]:=cH []
theorem xX(line:List UInt8)(fx:List (List UInt8))(v:Value)(g:G)(hlen:line.length≤1000000)(_hfl:fx.length≤100)(hF:kr g)(hv:Rs g v (fx.map xU.mk)):
  CallsIn Wd 0 prog 260 #[.string (bs line),v] g.w (zZ g (fun g' r=>jG fx (bD 32 line)∧Rs g' r ((bD 32 line).map xU.mk)) oG (¬jG fx (bD 32 line))):=by
 have hs:=St.start g;have aj:=G.le.refl g;have Mo:=hv;obtain⟨fa,fc,rfl⟩:=hv.isSlice;refine enter func260 rfl ntmps260 rfl<|aD rfl<|ck 1 rfl<|d_ rfl (CT line 32 _ hlen hF) fun g1 vo aH AR=>?_;obtain⟨gz,gX,dk,iw,aA⟩:=hs.lS aH AR;have ag:=aH.le.trans iw;rw[←gX];replace hs:=dk;clear dk AR;replace aj:=G.le.trans aj ag;have Fv:=pb 32 line;have ud:=mc 32 line;generalize bD 32 line=ps at*;obtain⟨pa,pc,rfl⟩:=aA.isSlice;have Je:=aj;have MO:(ps.map xU.mk).length=ps.length:=aaS _;have Fh:(fx.map xU.mk).length=fx.length:=aaS _;have Mm:Rs gz (.slice pa ps.length pc) (ps.map xU.mk):=by have h:=aA;rw[MO]at h;exact h
 have Mo:Rs g (.slice fa fx.length fc) (fx.map xU.mk):=by have h:=Mo;rw[Fh]at h;exact h
 clear aA hv;rw[MO,Fh];refine aF rfl<|ck 5 rfl ?_;by_cases EK:fx.length≤ps.length
 ·refine bd 14 (b':=true) (by simp;omega) rfl<|so rfl (eP true _) ?_ fun h=>(by cases h)
  rintro g3 _ fT ⟨rfl,_⟩;replace hs:=hs.call fT;have ag:=fT.le;replace aj:=G.le.trans aj ag;refine bE<|ak<|aD rfl<|aw ?_;refine aZ (fun m a' w=> ∃(k:Nat) (g':G),w=g'.w∧St g g' []∧G.le gz g'∧k≤fx.length∧m=fx.length-k∧(∀i w,i<k→fx[i]? =some w→w=[]∨ps[i]? =some w)∧
   Fr 36 [] [(5,.slice pa ps.length pc),(16,.slice fa fx.length fc),(17,vI fx.length),(18,vI k)] a') fx.length (fun a' ha=>⟨0,g3,rfl,hs,fT.le,aar _,rfl,fun i w h=>absurd h (by omega),ha.kp rfl⟩) ?_
  clear hs aj;rintro m a' _ ⟨k,g',rfl,hs,aj,hk,rfl,kQ,dT⟩;have aA:=Mm.mono aj;have aE:=Mo.mono (Je.trans aj);revert a';refine bT<|aD rfl<|ak ?_;by_cases aV:k<fx.length
  ·refine aG (b:=decide ((k:Int)<(fx.length:Int))) (by simp;omega) rfl<|ar<|ai<|ak<|aw<|ck 1 rfl<|fP (y:=⟨fx[k]⟩) aE (by simp[dq,aV]) rfl ?_;rintro b p ys aK rfl;refine dE 1 [.e aK 0] rfl<|aF rfl<|ah<|Wp 3 rfl ?_;have Rv:k<ps.length:=by omega
   by_cases h0:fx[k]=[]
   ·refine bd 25 (b':=true) (by rw[cH,xY];simp[h0]) rfl<|Wp 7 rfl<|so rfl (eP true _) ?_ fun h=>(by cases h)
    rintro g3 _ fT ⟨rfl,_⟩;replace hs:=hs.call fT;have ag:=fT.le;obtain⟨aj,aA⟩:=cA ag aj aA;refine an<|aX<|ai<|ah<|Wp 2 rfl<|an<|fun a ha=>⟨fx.length-(k+1),by omega,k+1,_,rfl,hs,aj,by omega,rfl,?_,ha.keep ⟨rfl,rfl,rfl,kW rfl,trivial⟩⟩
    intro i w hi hw;rcases abc i k with J_|J_
    ·exact kQ i w J_ hw
    obtain rfl:i=k:=by omega
    rw[aas aV]at hw;obtain rfl:=aax hw;exact .inl h0
   refine bd 25 (b':=false) (by rw[cH,xY];simp[h0]) rfl<|Wp 2 rfl<|fP (y:=⟨ps[k]⟩) aA (by simp[dq,Rv]) rfl ?_;rintro b p ys aK rfl;refine dE 1 [.e aK 0] rfl<|Wp 3 rfl ?_;by_cases h1:ps[k]=fx[k]
   ·refine bd 32 (b':=true) (by rw[cH,cH];simp[h1]) rfl<|so rfl (eP true _) ?_ fun h=>(by cases h)
    rintro g3 _ fT ⟨rfl,_⟩;replace hs:=hs.call fT;have ag:=fT.le;obtain⟨aj,aA⟩:=cA ag aj aA;refine an<|aX<|ai<|ah<|Wp 2 rfl<|an<|fun a ha=>⟨fx.length-(k+1),by omega,k+1,_,rfl,hs,aj,by omega,rfl,?_,ha.keep ⟨rfl,rfl,rfl,kW rfl,trivial⟩⟩
    intro i w hi hw;rcases abc i k with J_|J_
    ·exact kQ i w J_ hw
    obtain rfl:i=k:=by omega
    rw[aas aV]at hw;obtain rfl:=aax hw;exact .inr (by rw[aas Rv,h1])
   refine bd 32 (b':=false) (by rw[cH,cH];simp[h1]) rfl<|so rfl (eP false _) ?_ ?_
   ·rintro g3 _ fT ⟨_,hc⟩;cases hc
   intro _ g3 fT;replace hs:=hs.call fT;refine iG ?_;exact dO (zZ.xB (fun h=>by
        rcases h.2 k _ (aas aV)with e|e
        ·exact h0 e
        rw[aas Rv]at e;exact h1 (aax e)) hs.p9)
  refine bg (b:=decide ((k:Int)<(fx.length:Int))) (by simp;omega) rfl<|aJ<|aM<|aM<|b_<|ai<|aD rfl<|au ?_;obtain rfl:k=fx.length:=by omega
  refine eC rfl (.inl (hs.ret ⟨⟨EK,fun i w h=>kQ i w (aaN.1 h).1 h⟩,aA⟩))
 refine bd 14 (b':=false) (by simp;omega) rfl<|so rfl (eP false _) ?_ ?_
 ·rintro g3 _ fT ⟨_,hc⟩;cases hc
 intro _ g3 fT;replace hs:=hs.call fT;exact iG<|dO (zZ.xB (fun h=>EK h.1) hs.p9)
def OA(b:Nat)(cs:List Value):dc:=vO b cs 30
theorem Rw{α:Type}{l:List α}(h:l.length=2): ∃a b,l=[a,b]:=by
 match l,h with
 |[a,b],_=>exact⟨a,b,rfl⟩
theorem kg{fx l:List (List UInt8)}(h:jG fx l)(i:Nat){w x:List UInt8}(hw:fx[i]? =some w)(hx:l[i]? =some x)(fL:w≠[]):x=w:=by
 rcases h.2 i w hw with e|e
 ·exact absurd e fL
 rw[hx]at e;exact aax e
theorem Mt{line x a:List UInt8}(uf:bD 32 line=[a,x])(h:jG [mD,[]] [a,x]):s8 line=(o6 x).map fun p=>((p.1:Int),(p.2:Int)):=by obtain rfl:=kg h 0 (w:=mD) rfl rfl (by decide);unfold s8;rw[uf];simp
theorem Mu{line:List UInt8}(h: ¬jG [mD,[]] (bD 32 line)):s8 line=none:=by
 unfold s8;split
 ·rename_i a0 a1 he;rw[if_neg];rintro rfl;refine h ?_;rw[he];refine⟨aaz _,fun i w hw=>?_⟩
  match i,hw with
  |0,hw=>exact .inr hw
  |1,hw=>exact .inl (aax hw).symm
  |_+2,hw=>cases hw
 rfl
theorem Mv{line:List UInt8}(h:(bD 32 line).length≠2):s8 line=none:=by
 unfold s8;split
 ·rename_i a0 a1 he;rw[he]at h;exact absurd rfl h
 rfl
def rn(line:List UInt8):Option (Int×Int):=(s8 line).bind fun p=>if dV ⟨p.1,p.2,[],[]⟩=true then some p else none
theorem Rp{b:Nat}(line:List UInt8)(hlen:line.length≤1000000){g0 g:G}{L:List dc}(hF:kr g)(hs:St g0 g (OA b [vI 0,vI 0,.slice none 0 0,.slice none 0 0]::L)):
  CallsIn Wd 0 prog 222 #[vP b,.string (bs line)] g.w fun e w'=>
   df g (fun g' r=>r= .tuple #[]∧ ∃m n:Int,rn line=some (m,n)∧St g0 g' (OA b [vI m,vI n,.slice none 0 0,.slice none 0 0]::L)) e w'∨
   (rn line=none∧gj g oG (fun g'=> ∃cs,St g0 g' (OA b cs::L)) e w'):=by
 have aj:=G.le.refl g;unfold OA at hs⊢;refine enter func222 rfl ntmps222 rfl<|ck 1 rfl<|iX [(0,.string (bs mD)),(1,.string (bs []))] [.string (bs mD),.string (bs [])] hs rfl rfl fun bl gl hs ag=>?_;replace aj:=G.le.trans aj ag;obtain⟨gz,gX,dk,iw,aE⟩:=hs.cD (α:=xU) (xs:=[⟨mD⟩,⟨[]⟩]) (i:=0) rfl (cR.strs _ [mD,[]]);have ag:=iw;rw[←gX];replace hs:=dk;clear dk;replace aj:=G.le.trans aj ag;refine so rfl (xX line [mD,[]] _ _ hlen (by decide) (hF.mono aj) aE) ?_ ?_
 rotate_left
 ·intro hn g5 sQ;replace hs:=hs.call sQ;replace aj:=aj.trans sQ.le;exact iG<|dO (.inr ⟨by unfold rn;rw[Mu hn];rfl,gj.intro aj ⟨_,hs⟩⟩)
 rintro g4 v nN ⟨mH,aA⟩;replace hs:=hs.call nN;have ag:=nN.le;replace aj:=G.le.trans aj ag;obtain⟨pa,pc,rfl⟩:=aA.isSlice;rw[aaS]at aA⊢;have ud:=mc 32 line;generalize uf:bD 32 line=ps at*;refine aF rfl<|ck 3 rfl ?_;by_cases h2:ps.length=2
 ·obtain⟨a,x,rfl⟩:=Rw h2;refine bd 10 (b':=true) (by simp) rfl<|so rfl (eP true _) ?_ fun h=>(by cases h);rintro g3 _ fT ⟨rfl,_⟩;replace hs:=hs.call fT;have ag:=fT.le;obtain⟨aj,aA⟩:=cA ag aj aA;refine bE<|ck 3 rfl<|fP (y:=⟨x⟩) aA rfl rfl ?_;rintro b p ys aK rfl;refine dE 1 [.e aK 0] rfl ?_;have E7:=Mt uf mH;refine so rfl (Mj x _ (aaC (ud x (by simp)) hlen) (hF.mono aj)) ?_ ?_
  ·rintro g6 _ pw ⟨m,n,IA,rfl⟩;replace hs:=hs.call pw;have ag:=pw.le;replace aj:=G.le.trans aj ag;rw[IA]at E7;refine Wp 5 rfl<|dC 0 hs rfl fun g1 hs ag=>?_;replace aj:=G.le.trans aj ag;refine Wp 2 rfl<|dC 0 hs rfl fun g1 hs ag=>?_;replace aj:=G.le.trans aj ag;refine bE<|ah<|Wm 3 [.o 0] hs rfl<|jN rfl (vj _ ⟨m,n,[],[]⟩ _ ⟨none,0,0,none,0,0,rfl,Rs.nil _,Rs.nil _⟩) hs fun g1 hs ag=>?_;replace aj:=G.le.trans aj ag;cases hr:dV ⟨m,n,[],[]⟩with
   |true=>
    refine so rfl (eP true _) ?_ fun h=>(by cases h);rintro g3 _ fT ⟨rfl,_⟩;replace hs:=hs.call fT;have ag:=fT.le;replace aj:=G.le.trans aj ag;exact an<|nd rfl (.inl (df.intro aj ⟨rfl,m,n,by unfold rn;rw[E7];simp[hr],hs⟩))
   |false=>
    refine so rfl (eP false _) ?_ ?_
    ·rintro g3 _ fT ⟨_,hc⟩;cases hc
    intro _ g3 fT;replace hs:=hs.call fT;replace aj:=aj.trans fT.le;exact iG<|dO (.inr ⟨by unfold rn;rw[E7];simp[hr],gj.intro aj ⟨_,hs⟩⟩)
  intro hn g5 sQ;replace hs:=hs.call sQ;replace aj:=aj.trans sQ.le;exact iG<|dO (.inr ⟨by unfold rn;rw[E7,hn];rfl,gj.intro aj ⟨_,hs⟩⟩)
 refine bd 10 (b':=false) (by simp;omega) rfl<|so rfl (eP false _) ?_ ?_
 ·rintro g3 _ fT ⟨_,hc⟩;cases hc
 intro _ g3 fT;replace hs:=hs.call fT;replace aj:=aj.trans fT.le;exact iG<|dO (.inr ⟨by unfold rn;rw[Mv (by rw[uf];exact h2)];rfl,gj.intro aj ⟨_,hs⟩⟩)
end Go.Proofs.YtkpojaffabjibaaGreatDoor

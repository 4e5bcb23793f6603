/- Parts of the proof, from: The walk through the reference's around. -/
import Derived.Test.YtbfjdfecgiegpaaGreatDoorYa
import Derived.Test.YtbfjdfecgiegpaaGreatDoorYc
import Derived.Test.YtbfjdfecgiegpaaGreatDoorYm
import Derived.Test.YtbfjdfecgiegpaaGreatDoorYl
import Derived.Test.YtbfjdfecgiegpaaGreatDoorYg
namespace Go.Proofs.YtbfjdfecgiegpaaGreatDoor
open Go Go.K Tryz
set_option maxRecDepth 10000
attribute [local irreducible] W WL cS bh bY bB bA bC cL cD
set_option maxHeartbeats 2000000
theorem FT(n:Nat):(List.replicate n [Value.int .i64 0]).flatten=(List.replicate n (0:Int)).map (Value.int .i64):=by simp
def Aj(ob N:Nat)(l:List Int):df:=.row 3 1 (.slice (vA ob) N N) N (l.map (Value.int .i64))
theorem sL{l:List Int}{c:Int}(_h0:0≤c)(h:c.toNat<l.length):(l.map (Value.int .i64))[c.toNat*1]? =some (vI (dg l c)):=by unfold dg;rw[Nat.mul_one,List.getElem?_map,List.getD_eq_getElem?_getD,List.getElem?_eq_getElem h];rfl
theorem FU(v lv:Value)(f:bG)(live:List Bool)(first:Int)(g:G)(dt:fP g v f)(cd:Rs g lv live)(cF:valid f=true)(hl:live.length=f.steps.length)(hf:gH f first)(FV:dh live first):
  cN prog 176 #[v,lv,vI first] g fun g' r=>Rs g' r (dT f live first):=by
 obtain⟨a1,n1,c1,a2,n2,c2,rfl,aH,aW⟩:=id dt;obtain⟨_,_,e⟩:=aH.isSlice;obtain⟨rfl,rfl,rfl⟩:=Value.slice.inj e;clear e;obtain⟨al,cl,rfl⟩:=cd.isSlice;have hs:=St.start g;have ar:=G.le.refl g;have QV:=sI cF;have MF:=hf.1;have aP:=hf.2;refine enter func176 rfl ntmps176 rfl<|cR<|EH hs rfl fun bf g1 hs ai=>?_;obtain⟨aH,cd⟩:=cr ai aH cd;refine aX rfl<|c_ 3 [.o 0] hs rfl ?_;obtain⟨g2,bS,aV,ai,aL⟩:=hs.bd (i:=0) rfl;replace hs:=aV;clear aV;rw[←bS];obtain⟨aH,cd⟩:=cr ai aH cd;have aD:=aL;clear aL;refine ak rfl rfl<|sJ T.ok rfl hs rfl rfl rfl rfl rfl rfl (by decide) rfl (by show 8*f.steps.length≤_;omega) (by unfold maxLen;omega) fun ob gm hs ai=>?_;obtain⟨aD,aH,cd⟩:=dR ai aD aH cd;refine aX rfl<|az<|aZ rfl<|aI ?_;have dI:St g gm [Aj ob f.steps.length (List.replicate f.steps.length 0)]:=by unfold Aj;rw[←FT];exact hs
 replace hs:=dI;clear dI;have yj:=ki.begin f live MF;generalize List.replicate f.steps.length (0:Int)=Q1 at*;have mP:=aD;have pL:=aH;have wX:=cd;have fN:=G.le.refl gm;refine bK (fun m a' w=> ∃(d:Nat) (dist:List Int) (g2:G),w=g2.w∧St g g2 [Aj ob f.steps.length dist]∧G.le gm g2∧ki f live first dist d first.toNat∧1≤d∧d≤f.steps.length+1∧m=f.steps.length+1-d∧
   Fr 162 [] [(1,.slice al live.length cl),(2,vI first),(3,vP bf),(7,.slice (vA ob) f.steps.length f.steps.length),(8,vI d)] a') f.steps.length
  (fun a' ha=>⟨1,Q1,gm,rfl,hs,fN,yj,Nat.le_refl _,by omega,by omega,ha.kp rfl⟩) ?_
 clear hs fN aD aH aW cd dt yj;rintro m a' _ ⟨d,dist,g2,rfl,hs,fN,yj,Z_,YM,rfl,dW⟩;have aD:=mP.mono fN;have aH:=pL.mono fN;have cd:=wX.mono fN;revert a';refine ct<|az<|Hw [.z aD] rfl ?_;by_cases bt:d≤f.steps.length
 ·refine aJ (b:=decide ((d:Int)≤(f.steps.length:Int))) (decide_eq_true (by omega)) rfl<|aF<|aq<|az<|aI<|aZ rfl<|aI ?_;have pN:=aD;have HN:=aH;have ud:=cd;have mQ:=G.le.refl g2
  refine bK (fun m a' w=> ∃(u:Nat) (dist:List Int) (g3:G),w=g3.w∧St g g3 [Aj ob f.steps.length dist]∧G.le g2 g3∧ki f live first dist d u∧first.toNat≤u∧u≤f.steps.length∧m=f.steps.length-u∧
    Fr 162 [] [(1,.slice al live.length cl),(2,vI first),(3,vP bf),(7,.slice (vA ob) f.steps.length f.steps.length),(8,vI d),(9,vI u)] a') (f.steps.length-first.toNat)
   (fun a' ha=>⟨first.toNat,dist,g2,rfl,hs,mQ,yj,Nat.le_refl _,by omega,by omega,ha.keep ⟨rfl,rfl,rfl,rfl,rfl,kJ rfl,trivial⟩⟩) ?_
  clear hs mQ aD aH cd yj;rintro m a' _ ⟨u,dist,g3,rfl,hs,mQ,yj,KT,hu,rfl,dW⟩;have aD:=pN.mono mQ;have aH:=HN.mono mQ;have cd:=ud.mono mQ;have UW:=yj.len;revert a';refine ct<|az<|Hw [.z aD] rfl ?_;by_cases SA:u<f.steps.length
  ·refine aJ (b:=decide ((u:Int)<(f.steps.length:Int))) (decide_eq_true (by omega)) rfl ?_;have zb:gH f (u:Int):=⟨by omega,by omega⟩;have UT:=zb.1;have G8:=bZ (xs:=live) (n:=(u:Int)) rfl (by omega);have CX:dh live (u:Int)↔live[u]=true:=by unfold dh;rw[List.getD_eq_getElem?_getD,Int.toNat_natCast,List.getElem?_eq_getElem (by omega)];rfl
   generalize live[u]=lb at*;refine aF<|aq<|az<|aI<|az<|cG 2 rfl<|zc (y:=lb) cd G8 rfl ?_;rintro b q ys aL rfl;refine q5 1 [.e aL 0] rfl ?_;clear aL;cases lb with
   |false=>
    have NX:=yj.skip (.inl (fun h=>by simpa using CX.1 h));exact aX rfl<|aas rfl<|bc<|bg<|cA<|aq<|an<|Wp 3 rfl<|aA<|fun a ha=>⟨f.steps.length-(u+1),by omega,u+1,dist,_,rfl,hs,mQ,NX,by omega,by omega,rfl,ha.keep ⟨rfl,rfl,rfl,rfl,rfl,kW rfl,trivial⟩⟩
   |true=>
    have VE:=CX.2 rfl;refine Wp 4 rfl<|ak rfl rfl<|eo T.ok rfl (hs.own 0 _ rfl).1 UT (by omega) rfl rfl rfl rfl rfl rfl fun b q hh=>?_;obtain⟨rfl,rfl⟩:ob=b∧0=q:=by simpa using hh
    refine ak rfl rfl<|fB T.ok ((u:Int).toNat*1) rfl (hs.own 0 _ rfl).1 rfl (v:=vI (dg dist u)) (sL UT (by omega)) ?_;by_cases lK:0<dg dist u
    ·have NX:=yj.skip (.inr (by omega));exact aX rfl<|aJ (b:=decide ((0:Int)<dg dist u)) (decide_eq_true lK) rfl<|bc<|bg<|cA<|aq<|an<|Wp 3 rfl<|aA<|fun a ha=>⟨f.steps.length-(u+1),by omega,u+1,dist,_,rfl,hs,mQ,NX,by omega,by omega,rfl,ha.keep ⟨rfl,rfl,rfl,rfl,rfl,kW rfl,trivial⟩⟩
    have hz:dg dist u=0:=by
     rcases yj.val u zb with h|⟨e,h,_⟩
     ·exact h
     omega
    refine aX rfl<|aQ (b:=decide ((0:Int)<dg dist u)) (decide_eq_false lK) rfl ?_;have Z':=yj.leave cF zb VE (by omega) hz;have lx:=nt cF zb;have KI: ∀l,(n3 first d dist u l).length=f.steps.length:=fun l=>by rw[HO,UW]
    have G7: ∀l (c:Int),0≤c→n3 first d dist u (l++[c])=if lL first d (n3 first d dist u l) c=true then(n3 first d dist u l).set u (d:Int)else n3 first d dist u l:=fun l c hc=>FW hz (by omega) hc
    have YN:n3 first d dist u []=dist:=rfl;refine aF<|aq<|sP 3 [.z aD] rfl<|zc (y:=bj f u) aH (qA zb) rfl ?_;rintro b q ys aL ⟨b1,b2,b3,b4,b5,b6,rfl,_,cj⟩;obtain⟨_,_,e⟩:=cj.isSlice;obtain⟨rfl,rfl,rfl⟩:=Value.slice.inj e;clear e;refine ak rfl rfl<|aE _ T.ok rfl<|q5 1 [.e aL 4] rfl ?_;clear aL;refine aX rfl<|aZ rfl<|aI ?_;have EA:=cj.ef;unfold maxLen at EA;have Oc:=aD;have VF:=aH;have Od:=cj;have dL:=G.le.refl g3
    refine bK (fun m a' w=> ∃(i:Nat) (g4:G),w=g4.w∧St g g4 [Aj ob f.steps.length (n3 first d dist u ((bj f u).next.take i))]∧G.le g3 g4∧i≤(bj f u).next.length∧m=(bj f u).next.length-i∧
      Fr 162 [] [(1,.slice al live.length cl),(2,vI first),(3,vP bf),(7,.slice (vA ob) f.steps.length f.steps.length),(8,vI d),(9,vI u),(10,.slice b4 (bj f u).next.length b6),(11,vI i)] a') (bj f u).next.length
     (fun a' ha=>⟨0,g3,rfl,by rw[List.take_zero,YN];exact hs,dL,Nat.zero_le _,rfl,ha.kp rfl⟩) ?_
    clear hs dL aD aH cj cd yj YN;rintro m a' _ ⟨i,g4,rfl,hs,dL,hi,rfl,dW⟩;have aD:=Oc.mono dL;have aH:=VF.mono dL;have cj:=Od.mono dL;revert a';refine ct<|az<|aZ rfl ?_;by_cases P7:i<(bj f u).next.length
    ·refine aJ (b:=decide ((i:Int)<((bj f u).next.length:Int))) (decide_eq_true (by omega)) rfl ?_;have eH:=bZ (xs:=(bj f u).next) (n:=(i:Int)) rfl P7;have BL:gH f (bj f u).next[i]:=lx _ (List.getElem_mem P7);have nd:=G7 ((bj f u).next.take i) (bj f u).next[i] BL.1;have aaa:=KI ((bj f u).next.take i);rw[←List.take_succ_eq_append_getElem P7]at nd;generalize n3 first d dist u ((bj f u).next.take i)=tb at*;generalize(bj f u).next[i]=c at*;have nS:=BL.1;have P6:=BL.2;refine aF<|aq<|az<|aI<|cG 3 rfl ?_;by_cases MG:d=1
     ·refine bM 62 (b':=true) (by simpa using(show(d:Int)=1 from by omega)) rfl<|Wp 2 rfl<|zc (y:=c) cj eH rfl ?_;rintro b q ys aL rfl;refine q5 1 [.e aL 0] rfl ?_;clear aL;refine Wp 4 rfl ?_;by_cases YO:c=first
      ·refine bM 70 (b':=true) (by simpa using YO) rfl<|aX rfl ?_;rw[if_pos (by unfold lL;simp;omega)]at nd;refine aas rfl<|an<|Wp 3 rfl<|ak rfl rfl<|eo T.ok rfl (hs.own 0 _ rfl).1 (show(0:Int)≤(u:Int)from by omega) (by omega) rfl rfl rfl rfl rfl rfl fun b q hh=>?_;obtain⟨rfl,rfl⟩:ob=b∧0=q:=by simpa using hh
       refine bu rfl<|iA T.ok 0 ((u:Int).toNat*1) (us:=[vI d]) rfl hs rfl rfl rfl rfl rfl rfl rfl (by simp) (by simp;omega) (vR _ _ (Value.int .i64) (d:Int) (by omega)) fun g9 hs ai=>?_;obtain⟨dL,aD,aH,cj⟩:=dK ai dL aD aH cj;exact aA<|bJ<|aq<|an<|Wp 3 rfl<|aA<|fun a ha=>⟨(bj f (u:Int)).next.length-(i+1),by omega,i+1,_,rfl,by rw[nd];exact hs,dL,by omega,rfl,ha.keep ⟨rfl,rfl,rfl,rfl,rfl,rfl,rfl,kW rfl,trivial⟩⟩
      refine bM 70 (b':=false) (by simpa using YO) rfl<|Wp 3 rfl<|bM 73 (b':=false) (decide_eq_false (by omega)) rfl<|aX rfl ?_;rw[if_neg (by unfold lL;simp;omega)]at nd;exact aar rfl<|aF<|bJ<|aq<|an<|Wp 3 rfl<|aA<|fun a ha=>⟨(bj f (u:Int)).next.length-(i+1),by omega,i+1,_,rfl,by rw[nd];exact hs,dL,by omega,rfl,ha.keep ⟨rfl,rfl,rfl,rfl,rfl,rfl,rfl,kW rfl,trivial⟩⟩
     refine bM 62 (b':=false) (by simpa using(show ¬(d:Int)=1 from by omega)) rfl<|Wp 11 rfl<|bM 73 (b':=true) (decide_eq_true (by omega)) rfl<|Wp 2 rfl<|zc (y:=c) cj eH rfl ?_;rintro b q ys aL rfl;refine q5 1 [.e aL 0] rfl ?_;clear aL;refine Wp 4 rfl ?_;by_cases EB:first<c
     ·refine bM 81 (b':=true) (decide_eq_true EB) rfl<|Wp 3 rfl<|zc (y:=c) cj eH rfl ?_;rintro b q ys aL rfl;refine q5 1 [.e aL 0] rfl ?_;clear aL;refine ak rfl rfl<|eo T.ok rfl (hs.own 0 _ rfl).1 nS (by omega) rfl rfl rfl rfl rfl rfl fun b q hh=>?_;obtain⟨rfl,rfl⟩:ob=b∧0=q:=by simpa using hh
      refine ak rfl rfl<|fB T.ok ((c:Int).toNat*1) rfl (hs.own 0 _ rfl).1 rfl (v:=vI (dg tb c)) (sL nS (by omega))<|aX rfl ?_;by_cases Q2:dg tb c=(d:Int)-1
      ·rw[if_pos (by unfold lL;simp;omega)]at nd;refine aJ (b:=dg tb c==IntKind.i64.wrap ((d:Int)-1)) (by rw[wq];simpa using Q2) rfl<|an<|Wp 3 rfl<|ak rfl rfl<|eo T.ok rfl (hs.own 0 _ rfl).1 (show(0:Int)≤(u:Int)from by omega) (by omega) rfl rfl rfl rfl rfl rfl fun b q hh=>?_;obtain⟨rfl,rfl⟩:ob=b∧0=q:=by simpa using hh
       refine bu rfl<|iA T.ok 0 ((u:Int).toNat*1) (us:=[vI d]) rfl hs rfl rfl rfl rfl rfl rfl rfl (by simp) (by simp;omega) (vR _ _ (Value.int .i64) (d:Int) (by omega)) fun g9 hs ai=>?_;obtain⟨dL,aD,aH,cj⟩:=dK ai dL aD aH cj;exact aA<|bJ<|aq<|an<|Wp 3 rfl<|aA<|fun a ha=>⟨(bj f (u:Int)).next.length-(i+1),by omega,i+1,_,rfl,by rw[nd];exact hs,dL,by omega,rfl,ha.keep ⟨rfl,rfl,rfl,rfl,rfl,rfl,rfl,kW rfl,trivial⟩⟩
      rw[if_neg (by unfold lL;simp;omega)]at nd;exact aQ (b:=dg tb c==IntKind.i64.wrap ((d:Int)-1)) (by rw[wq];simpa using Q2) rfl<|aF<|bJ<|aq<|an<|Wp 3 rfl<|aA<|fun a ha=>⟨(bj f (u:Int)).next.length-(i+1),by omega,i+1,_,rfl,by rw[nd];exact hs,dL,by omega,rfl,ha.keep ⟨rfl,rfl,rfl,rfl,rfl,rfl,rfl,kW rfl,trivial⟩⟩
     refine bM 81 (b':=false) (decide_eq_false EB) rfl<|aX rfl ?_;rw[if_neg (by unfold lL;simp;omega)]at nd;exact aar rfl<|aF<|bJ<|aq<|an<|Wp 3 rfl<|aA<|fun a ha=>⟨(bj f (u:Int)).next.length-(i+1),by omega,i+1,_,rfl,by rw[nd];exact hs,dL,by omega,rfl,ha.keep ⟨rfl,rfl,rfl,rfl,rfl,rfl,rfl,kW rfl,trivial⟩⟩
    refine aQ (b:=decide ((i:Int)<((bj f u).next.length:Int))) (decide_eq_false (by omega)) rfl ?_;rw[List.take_of_length_le (by omega)]at hs;exact bc<|bg<|bg<|cA<|bJ<|aq<|an<|Wp 3 rfl<|aA<|fun a ha=>⟨f.steps.length-(u+1),by omega,u+1,_,_,rfl,hs,mQ.trans dL,Z',by omega,by omega,rfl,ha.keep ⟨rfl,rfl,rfl,rfl,rfl,kW rfl,trivial⟩⟩
  refine aQ (b:=decide ((u:Int)<(f.steps.length:Int))) (decide_eq_false (by omega)) rfl ?_;obtain rfl:u=f.steps.length:=by omega
  have ML:=yj.round MF;exact bc<|bg<|bg<|cA<|bJ<|aq<|an<|Wp 3 rfl<|aA<|fun a ha=>⟨f.steps.length+1-(d+1),by omega,d+1,dist,_,rfl,hs,fN.trans mQ,ML,by omega,by omega,rfl,ha.keep ⟨rfl,rfl,rfl,rfl,kW rfl,trivial⟩⟩
 refine aQ (b:=decide ((d:Int)≤(f.steps.length:Int))) (decide_eq_false (by omega)) rfl ?_;obtain rfl:d=f.steps.length+1:=by omega
 have UW:=yj.len;refine bc<|bg<|bg<|cA<|aq<|az<|cG 2 rfl<|ak rfl rfl<|eo T.ok rfl (hs.own 0 _ rfl).1 MF (by omega) rfl rfl rfl rfl rfl rfl fun b q hh=>?_;obtain⟨rfl,rfl⟩:ob=b∧0=q:=by simpa using hh
 refine ak rfl rfl<|fB T.ok ((first:Int).toNat*1) rfl (hs.own 0 _ rfl).1 rfl (v:=vI (dg dist first)) (sL MF (by omega))<|aX rfl ?_;by_cases hz:dg dist first=0
 ·refine aJ (b:=dg dist first==0) (by simpa using hz) rfl<|aZ rfl<|aG<|nw rfl hs ?_;rw[yj.zero cF hf hl FV hz];exact Rs.nil _
 refine aQ (b:=dg dist first==0) (by simpa using hz) rfl ?_;obtain⟨eO,aab⟩:=yj.Oe cF hf hl FV hz;have EC:=fun k h1 h2=>yj.pick cF hf hl eO (k:=k) h1 h2;have MH:=((jz cF hf hl).2 eO).1.zero;have fw:=qC cF hf hl eO;have MM:=List.length_pos_iff.2 eO;have MN:(dT f live first).take 1=[first]:=by rw[qD MM,List.take_zero,MH];rfl
 generalize MO:dT f live first=cy at*;refine aF<|aq<|cG 1 rfl<|BP [(0,vI first)] [vI first] hs rfl rfl fun bl gl hs ai=>?_;obtain⟨aD,aH,cd⟩:=dR ai aD aH cd;refine aX rfl<|aZ rfl<|az<|cG 2 rfl<|ak rfl rfl<|eo T.ok rfl (hs.own 1 _ rfl).1 MF (by omega) rfl rfl rfl rfl rfl rfl fun b q hh=>?_;obtain⟨rfl,rfl⟩:ob=b∧0=q:=by simpa using hh
 refine ak rfl rfl<|fB T.ok ((first:Int).toNat*1) rfl (hs.own 1 _ rfl).1 rfl (v:=vI (dg dist first)) (sL MF (by omega))<|aX rfl<|aI ?_;have dI:St g gl [Ah (.slice (vA bl) 1 1) (cy.take 1),Aj ob f.steps.length dist]:=by rw[MN];exact hs
 replace hs:=dI;clear dI;have pN:=aD;have HN:=aH;have ud:=cd;have mQ:=G.le.refl gl;refine bK (fun m a' w=> ∃(k:Nat) (ov:Value) (g3:G),w=g3.w∧St g g3 [Ah ov (cy.take k),Aj ob f.steps.length dist]∧G.le gl g3∧1≤k∧k≤cy.length∧m=cy.length-k∧
   Fr 162 [] [(1,.slice al live.length cl),(2,vI first),(3,vP bf),(7,.slice (vA ob) f.steps.length f.steps.length),(12,ov),(13,vI (cy.getD (k-1) 0)),(14,vI ((cy.length:Int)-k+1))] a') (cy.length-1)
  (fun a' ha=>⟨1,_,gl,rfl,hs,mQ,Nat.le_refl _,by omega,by omega,ha.keep ⟨rfl,rfl,rfl,rfl,rfl,kI rfl MH.symm,kJ rfl,trivial⟩⟩) ?_
 clear hs mQ aD aH cd;rintro m a' _ ⟨k,ov,g3,rfl,hs,mQ,rH,yA,rfl,dW⟩;have aD:=pN.mono mQ;have aH:=HN.mono mQ;have cd:=ud.mono mQ;obtain⟨qa,qc,rfl⟩:=(hs.own 0 _ rfl).1.form;revert a';refine ct<|az<|aZ rfl ?_;by_cases FX:k<cy.length
 ·refine aJ (b:=decide ((1:Int)<(cy.length:Int)-k+1)) (decide_eq_true (by omega)) rfl ?_;obtain⟨KU,MI⟩:=EC k (by omega) FX;have G7:=qD FX;have YP:cy.getD (k+1-1) 0=cy.getD k 0:=rfl;have aac:(cy.take k).length=k:=by rw[List.length_take];omega
  generalize cy.getD (k-1) 0=at_ at*;generalize cy.getD k 0=nx at*;have lx:=nt cF MI;refine aF<|aq<|az<|aI<|sP 3 [.z aD] rfl<|zc (y:=bj f at_) aH (qA MI) rfl ?_;rintro b q ys aL ⟨b1,b2,b3,b4,b5,b6,rfl,_,cj⟩;obtain⟨_,_,e⟩:=cj.isSlice;obtain⟨rfl,rfl,rfl⟩:=Value.slice.inj e;clear e;refine ak rfl rfl<|aE _ T.ok rfl<|q5 1 [.e aL 4] rfl ?_;clear aL;refine aX rfl<|az<|aZ rfl<|aI ?_;have EA:=cj.ef;unfold maxLen at EA;have Oc:=aD;have VG:=cd;have Od:=cj;have dL:=G.le.refl g3
  refine bK (fun m a' w=> ∃(i:Nat) (g4:G),w=g4.w∧St g g4 [Ah (.slice qa (cy.take k).length qc) (cy.take k),Aj ob f.steps.length dist]∧G.le g3 g4∧((bj f at_).next.drop i).find? (nu live first dist ((cy.length:Int)-k))=some nx∧m=(bj f at_).next.length-i∧
    Fr 162 [] [(1,.slice al live.length cl),(2,vI first),(3,vP bf),(7,.slice (vA ob) f.steps.length f.steps.length),(12,.slice qa (cy.take k).length qc),(14,vI ((cy.length:Int)-k+1)),(15,.slice b4 (bj f at_).next.length b6),(16,vI i)] a') (bj f at_).next.length
   (fun a' ha=>⟨0,g3,rfl,hs,dL,by rw[List.drop_zero];exact KU,rfl,ha.kp rfl⟩) ?_
  clear hs dL aD aH cj cd KU;rintro m a' _ ⟨i,g4,rfl,hs,dL,KU,rfl,dW⟩;have aD:=Oc.mono dL;have cd:=VG.mono dL;have cj:=Od.mono dL;obtain⟨P7,VH,Of⟩:=Dg KU;have eH:=bZ (xs:=(bj f at_).next) (n:=(i:Int)) rfl P7;have BL:gH f (bj f at_).next[i]:=lx _ (List.getElem_mem P7);generalize(bj f at_).next[i]=c at*;have nS:=BL.1;have P6:=BL.2;revert a';refine ct<|az<|aZ rfl<|aJ (b:=decide ((i:Int)<((bj f at_).next.length:Int))) (decide_eq_true (by omega)) rfl<|aF<|aq<|az<|aI<|cG 2 rfl<|zc (y:=c) cj eH rfl ?_;rintro b q ys aL rfl;refine q5 1 [.e aL 0] rfl ?_;clear aL;refine Wp 3 rfl ?_;by_cases EB:first<c
  ·refine bM 132 (b':=true) (decide_eq_true EB) rfl ?_;have G8:=bZ (xs:=live) (n:=c) (j:=c.toNat) (by omega) (by omega);have CX:live.getD c.toNat false=live[c.toNat]'(by omega):=by rw[List.getD_eq_getElem?_getD,List.getElem?_eq_getElem (by omega)];rfl
   generalize live[c.toNat]'(by omega)=lb at*;refine Wp 3 rfl<|zc (y:=c) cj eH rfl ?_;rintro b q ys aL rfl;refine q5 1 [.e aL 0] rfl ?_;clear aL;refine zc (y:=lb) cd G8 rfl ?_;rintro b q ys aL rfl;refine q5 1 [.e aL 0] rfl ?_;clear aL;cases lb with
   |false=>
    refine aX rfl<|aar rfl ?_;have HP:=Of (by unfold nu;rw[CX];simp);exact aF<|bJ<|aq<|an<|Wp 3 rfl<|aA<|fun a ha=>⟨(bj f at_).next.length-(i+1),by omega,i+1,_,rfl,hs,dL,HP,rfl,ha.keep ⟨rfl,rfl,rfl,rfl,rfl,rfl,rfl,kW rfl,trivial⟩⟩
   |true=>
    refine Wp 5 rfl<|zc (y:=c) cj eH rfl ?_;rintro b q ys aL rfl;refine q5 1 [.e aL 0] rfl ?_;clear aL;refine ak rfl rfl<|eo T.ok rfl (hs.own 1 _ rfl).1 nS (by omega) rfl rfl rfl rfl rfl rfl fun b q hh=>?_;obtain⟨rfl,rfl⟩:ob=b∧0=q:=by simpa using hh
    refine ak rfl rfl<|fB T.ok ((c:Int).toNat*1) rfl (hs.own 1 _ rfl).1 rfl (v:=vI (dg dist c)) (sL nS (by omega))<|aX rfl ?_;by_cases Q2:dg dist c=(cy.length:Int)-k
    ·refine aJ (b:=dg dist c==IntKind.i64.wrap ((cy.length:Int)-k+1-1)) (by rw[wq];simp;omega) rfl ?_;have MD:=VH (by unfold nu;rw[CX,Q2,decide_eq_true EB];simp);subst MD;refine cG 2 rfl<|zc (y:=c) cj eH rfl ?_;rintro b q ys aL rfl;refine q5 1 [.e aL 0] rfl ?_;clear aL;refine aX rfl<|bc ?_;((with_reducible refine Og ?_ ?_);exact rfl);refine bg<|bg<|cA<|aq<|an<|Wp 2 rfl<|BP [(0,vI c)] [vI c] hs rfl rfl fun VI VJ hs ai=>?_;replace dL:=G.le.trans dL ai;refine ak rfl rfl<|bU T.ok 1 rfl hs rfl rfl rfl rfl rfl rfl rfl (by decide) rfl (Src.eI (hs.own 0 _ rfl).1).2 (by simp[Value.oneCell']) (by show((cy.take k).length+1)*8≤_;omega) (by unfold maxLen;omega) fun a9 c9 g8 hs ai=>?_;replace dL:=G.le.trans dL ai;exact Wp 1 rfl<|aA<|bJ<|aq<|an<|Wp 3 rfl<|aA<|fun a ha=>⟨cy.length-(k+1),by omega,k+1,.slice a9 ((cy.take k).length+1) c9,_,rfl,by rw[G7];simpa [Ah,Aj]using hs.drop 0,mQ.trans dL,by omega,by omega,rfl,ha.keep ⟨rfl,rfl,rfl,rfl,rfl,kI rfl YP.symm,kW rfl,trivial⟩⟩
    refine aQ (b:=dg dist c==IntKind.i64.wrap ((cy.length:Int)-k+1-1)) (by rw[wq];simp;omega) rfl ?_;have HP:=Of (by unfold nu;simp[Q2]);exact aF<|bJ<|aq<|an<|Wp 3 rfl<|aA<|fun a ha=>⟨(bj f at_).next.length-(i+1),by omega,i+1,_,rfl,hs,dL,HP,rfl,ha.keep ⟨rfl,rfl,rfl,rfl,rfl,rfl,rfl,kW rfl,trivial⟩⟩
  refine bM 132 (b':=false) (decide_eq_false EB) rfl<|aX rfl<|aar rfl ?_;have HP:=Of (by unfold nu;simp[EB]);exact aF<|bJ<|aq<|an<|Wp 3 rfl<|aA<|fun a ha=>⟨(bj f at_).next.length-(i+1),by omega,i+1,_,rfl,hs,dL,HP,rfl,ha.keep ⟨rfl,rfl,rfl,rfl,rfl,rfl,rfl,kW rfl,trivial⟩⟩
 refine aQ (b:=decide ((1:Int)<(cy.length:Int)-k+1)) (decide_eq_false (by omega)) rfl ?_;obtain rfl:k=cy.length:=by omega
 rw[List.take_length]at hs⊢;obtain⟨gq,MQ,YQ,SB,fh⟩:=hs.cP (α:=Int) (xs:=cy) (i:=0) rfl (cY.ints _ cy);rw[←MQ];replace hs:=YQ;clear YQ;exact bc<|bg<|bg<|cA<|aq<|aZ rfl<|aG (nw rfl hs fh)
end Go.Proofs.YtbfjdfecgiegpaaGreatDoor
namespace Go.Proofs.YtbfjdfecgiegpaaGreatDoor
open Go Go.K Tryz
set_option maxRecDepth 10000
attribute [local irreducible] W WL cS bh bY bB bA bC cL cD
set_option maxHeartbeats 2000000
theorem Dh{f:bG}{n x:Int}(h:x∈reach f n):dh (cu f n) x:=by
 unfold reach at h;split at h
 ·exact(wV.1 h).2
 simp at h
theorem HD(v:Value)(f:bG)(g:G)(dt:fP g v f):
  cN prog 92 #[v] g fun g' r=>y8 g' r (check f):=by
 obtain⟨a1,n1,c1,a2,n2,c2,rfl,aH,aW⟩:=id dt;obtain⟨_,_,e⟩:=aH.isSlice;obtain⟨rfl,rfl,rfl⟩:=Value.slice.inj e;clear e;have hs:=St.start g;have ar:=G.le.refl g;refine enter func92 rfl ntmps92 rfl<|cR<|An hs rfl fun bf g2 hs ai aD=>?_;replace dt:=dt.mono ai;refine w4 hs rfl fun br g1 hs ai=>?_;obtain⟨aD,dt⟩:=cr ai aD dt;refine b_<|sP 1 [.z aD] rfl<|sO rfl (BM _ f 0 _ dt) fun g1 vo aP wW=>?_;obtain⟨gz,gF,cK,gW,cd⟩:=hs.jO aP wW;have ai:=aP.le.trans gW;rw[←gF];replace hs:=cK;clear cK wW;obtain⟨aD,dt⟩:=cr ai aD dt;obtain⟨al,cl,rfl⟩:=cd.isSlice;refine aX rfl<|sP 1 [.z aD] rfl<|sO rfl (KS _ f _ dt) fun g1 vo aP wW=>?_;obtain⟨gz,gF,cK,gW,bR⟩:=hs.jO aP wW;have ai:=aP.le.trans gW;rw[←gF];replace hs:=cK;clear cK wW;obtain⟨aD,cd,dt⟩:=dR ai aD cd dt;obtain⟨ae,ce,rfl⟩:=bR.isSlice;have vz:=qB f 0;have Oh:(ends f).length≤40:=by unfold ends;exact Nat.le_trans (List.length_filter_le _ _) vz
 have HM: ∀x∈reach f 0,valid f=true∧gH f x:=fun x hx=>by
  have h1:=jA hx;unfold reach at hx;split at hx
  ·rename_i hg;exact⟨(ky.1 hg).1,h1⟩
  simp at hx
 have VK: ∀x∈ends f,gH f x:=fun x hx=>by unfold ends at hx;exact jA (List.mem_filter.1 hx).1
 refine aX rfl<|az<|aZ rfl<|aI ?_;have HI:=dt;have mP:=aD;have wX:=cd;have HQ:=bR;have jH:=G.le.refl gz
 refine bK (fun m a' w=> ∃(k:Nat) (g2:G),w=g2.w∧St g g2 [vO br [vI 0,.slice none 0 0] 124]∧G.le gz g2∧k≤(reach f 0).length∧m=(reach f 0).length-k∧rj f ((reach f 0).drop k)=rj f (reach f 0)∧
   Fr 88 [] [(1,vP bf),(2,vP br),(3,.slice al (reach f 0).length cl),(4,.slice ae (ends f).length ce),(5,vI k)] a') (reach f 0).length
  (fun a' ha=>⟨0,gz,rfl,hs,jH,Nat.zero_le _,rfl,by rw[List.drop_zero],ha.kp rfl⟩) ?_
 clear hs jH aD aH aW cd bR dt;rintro m a' _ ⟨k,g2,rfl,hs,jH,hk,rfl,de,dW⟩;have aD:=mP.mono jH;have dt:=HI.mono jH;have cd:=wX.mono jH;have bR:=HQ.mono jH;revert a';refine ct<|az<|aZ rfl ?_;by_cases bt:k<(reach f 0).length
 ·refine aJ (b:=decide ((k:Int)<((reach f 0).length:Int))) (decide_eq_true (by omega)) rfl ?_;rw[List.drop_eq_getElem_cons bt]at de;unfold rj at de;rw[List.find?_cons]at de;obtain⟨cF,lx⟩:=HM _ (List.getElem_mem bt);have eH:=bZ (xs:=reach f 0) (n:=(k:Int)) rfl bt;generalize(reach f 0)[k]=n at*;refine aF<|aq<|az<|aI<|az ?_;apply ea (eF (fe (.f (Ai n)::(fe (.f (Fact.rs (cu f n))::(.f (Fact.rs (cu f n))::[])))))) 7 [(6,6)] (by kernel_rfl)
  ·refine pO [[],[],[]] [.e aD 0] (St.start _) rfl<|fR [(1,23),(2,24)] (fun gd hf=>?_) ?_
   ·have eT:=(G.bI _).trans hf.le;exact aat rfl<|aj<|ay rfl<|aR T.ok rfl (cd.mono eT) (y:=n) eH rfl rfl rfl rfl rfl rfl fun b p ys aL gw=>⟨_,rfl,a_.refl _,b,p,rfl,by rw[←show ys=[Value.int .i64 n]from gw];exact aL⟩
   refine fR [(3,25)] (fun gd hf=>?_) ?_
   ·skip;refine ba fun v3 h3=>?_;apply aj;obtain⟨b,p,rfl,aL⟩:=h3;refine ay rfl<|cI T.ok 0 rfl aL rfl rfl<|⟨_,rfl,a_.refl _,?_⟩;exact rfl
   refine fR [(0,22),(4,26)] (fun gd hf=>?_) ?_
   ·have eT:=(G.bI _).trans hf.le;refine aat rfl<|aj<|ay rfl<|aC (Wc 175) aK rfl rfl rfl rfl rfl (rJ _ f n _ (dt.mono eT) cF lx) fun g' v h1 h2=>?_
    obtain⟨g2,e1,e2,e3,e4⟩:=(St.start gd).jO h1 h2;exact⟨g2,e1,e2.rh,e4⟩
   exact fR [(5,27),(5,27),(5,27)] (fun gd hf=>ba fun v5 h5=>(ba fun v5 h5=>(ba fun v5 h5=>(aj (aaL rfl h5)))))<|gG
  intro g1 aP;refine ba fun v6 h6=>?_;apply aj;replace hs:=hs.dr.call aP;have ai:=(G.bI _).trans aP.le;obtain⟨aD,cd,bR,dt⟩:=dK ai aD cd bR dt;have cj:Rs g1 v6 (cu f n):=h6;clear h6;replace jH:=jH.trans ai;obtain⟨am,cm,rfl⟩:=cj.isSlice;rw[eG]at cj;rw[eG];refine b_<|aZ rfl<|az<|aZ rfl<|aI ?_;have Di:=dt;have pN:=aD;have ud:=cd;have HK:=bR;have VL:=cj;have lG:=G.le.refl g1
  refine bK (fun m a' w=> ∃(j:Nat) (g5:G),w=g5.w∧St g g5 [vO br [vI 0,.slice none 0 0] 124]∧G.le g1 g5∧j≤(ends f).length∧m=(ends f).length-j∧
    Fr 88 [] [(1,vP bf),(2,vP br),(3,.slice al (reach f 0).length cl),(4,.slice ae (ends f).length ce),(5,vI k),(6,.slice am f.steps.length cm),
     (7,.bool (((ends f).take j).any (fun e=>(cu f n).getD e.toNat false))),(8,vI j)] a') (ends f).length
   (fun a' ha=>⟨0,g1,rfl,hs,lG,Nat.zero_le _,rfl,ha.kp rfl⟩) ?_
  clear hs lG aD cd bR dt cj;rintro m a' _ ⟨j,g5,rfl,hs,lG,hj,rfl,dW⟩;have aD:=pN.mono lG;have dt:=Di.mono lG;have cd:=ud.mono lG;have bR:=HK.mono lG;have cj:=VL.mono lG;revert a';refine ct<|az<|aZ rfl ?_;by_cases CY:j<(ends f).length
  ·refine aJ (b:=decide ((j:Int)<((ends f).length:Int))) (decide_eq_true (by omega)) rfl ?_;have G7:=List.take_succ_eq_append_getElem CY;have CU:=bZ (xs:=ends f) (n:=(j:Int)) rfl CY;have FY:=VK _ (List.getElem_mem CY);have vE:((ends f).take (j+1)).any (fun e=>(cu f n).getD e.toNat false)=(((ends f).take j).any (fun e=>(cu f n).getD e.toNat false)||(cu f n).getD (ends f)[j].toNat false):=by rw[G7,List.any_append];simp
   generalize(ends f)[j]=e at*;have SC:=FY.1;have KV:=FY.2;have HR:e.toNat<(cu f n).length:=by rw[eG];omega
   have VM:(cu f n).getD e.toNat false=(cu f n)[e.toNat]:=by rw[List.getD_eq_getElem?_getD,List.getElem?_eq_getElem HR];rfl
   have MR:=bZ (xs:=cu f n) (n:=e) (j:=e.toNat) (by omega) HR;rw[VM]at vE;generalize(cu f n)[e.toNat]=eb at*;generalize((ends f).take j).any (fun e=>(cu f n).getD e.toNat false)=ab at*;refine aF<|aq<|az<|aI<|an<|Wp 2 rfl ?_;cases ab with
   |true=>
    exact Wp 9 rfl<|aA<|bJ<|aq<|an<|Wp 3 rfl<|aA<|fun a ha=>⟨(ends f).length-(j+1),by omega,j+1,_,rfl,hs,lG,by omega,rfl,ha.keep ⟨rfl,rfl,rfl,rfl,rfl,rfl,kB rfl (by rw[vE];rfl),kW rfl,trivial⟩⟩
   |false=>
    refine Wp 3 rfl<|zc (y:=e) bR CU rfl ?_;rintro b p ys aL rfl;refine q5 1 [.e aL 0] rfl ?_;clear aL;refine zc (y:=eb) cj MR rfl ?_;rintro b p ys aL rfl;refine q5 1 [.e aL 0] rfl ?_;clear aL;exact Wp 2 rfl<|aA<|bJ<|aq<|an<|Wp 3 rfl<|aA<|fun a ha=>⟨(ends f).length-(j+1),by omega,j+1,_,rfl,hs,lG,by omega,rfl,ha.keep ⟨rfl,rfl,rfl,rfl,rfl,rfl,kB rfl (by rw[vE];rfl),kW rfl,trivial⟩⟩
  refine aQ (b:=decide ((j:Int)<((ends f).length:Int))) (decide_eq_false (by omega)) rfl ?_;obtain rfl:j=(ends f).length:=by omega
  rw[List.take_length];have vE:(ends f).any (fun e=>(cu f n).getD e.toNat false)=alive f n:=rfl;rw[vE];clear vE;refine bc<|bg<|bg<|cA<|aq<|aZ rfl ?_;cases YR:alive f n with
  |true=>
   rw[YR]at de;exact aar rfl<|aF<|bJ<|aq<|an<|Wp 3 rfl<|aA<|fun a ha=>⟨(reach f 0).length-(k+1),by omega,k+1,_,rfl,hs,jH.trans lG,by omega,rfl,de,ha.keep ⟨rfl,rfl,rfl,rfl,kW rfl,trivial⟩⟩
  |false=>
   rw[YR]at de;refine aas rfl<|cG 2 rfl<|zc (y:=n) cd eH rfl ?_;rintro b p ys aL rfl;refine q5 1 [.e aL 0] rfl ?_;clear aL;refine BP [(0,vI n)] [vI n] hs rfl rfl fun b2 g2 hs ai=>?_;obtain⟨aD,cd,bR,dt⟩:=dK ai aD cd bR dt;obtain⟨g3,vT,ED,Ak,CZ⟩:=hs.cP (α:=Int) (xs:=[n]) (i:=0) rfl (cY.ints _ [n]);clear ai;have ai:=Ak;rw[←vT];replace hs:=ED;obtain⟨aD,cd,bR,dt⟩:=dK ai aD cd bR dt;refine BO [(0,vI 1),(1,.slice (vA b2) 1 1)] [vI 1,.slice (vA b2) 1 1] [(0,1),(1,1)] rfl<|sN 0 hs rfl fun g1 hs ai=>?_;obtain⟨aD,cd,bR,dt⟩:=dK ai aD cd bR dt;replace CZ:=CZ.mono ai;refine b_<|aG<|gQ<|dO<|dO<|gQ<|dO<|me T.ok 0 rfl hs rfl rfl rfl<|hs.ret ?_;have vC:check f=(1,[n]):=by unfold check rj;rw[←de];rfl
   rw[vC];exact⟨_,_,_,rfl,CZ⟩
 refine aQ (b:=decide ((k:Int)<((reach f 0).length:Int))) (decide_eq_false (by omega)) rfl ?_;rw[List.drop_of_length_le (by omega)]at de;refine bc<|bg<|bg<|cA<|aq<|aZ rfl<|az<|aZ rfl<|aI ?_;have Di:=dt;have pN:=aD;have ud:=cd;have lG:=G.le.refl g2
 refine bK (fun m a' w=> ∃(j:Nat) (bv:Value) (g5:G),w=g5.w∧St g g5 [vO br [vI 0,.slice none 0 0] 124]∧G.le g2 g5∧j≤(reach f 0).length∧m=(reach f 0).length-j∧Rs g5 bv (aaE f ((reach f 0).take j))∧
   Fr 88 [] [(1,vP bf),(2,vP br),(3,.slice al (reach f 0).length cl),(9,bv),(10,vI j)] a') (reach f 0).length
  (fun a' ha=>⟨0,_,g2,rfl,hs,lG,Nat.zero_le _,rfl,Rs.nil _,ha.kp rfl⟩) ?_
 clear hs lG aD cd bR dt;rintro m a' _ ⟨j,bv,g5,rfl,hs,lG,hj,rfl,ly,dW⟩;have aD:=pN.mono lG;have dt:=Di.mono lG;have cd:=ud.mono lG;obtain⟨ab,cb,rfl⟩:=ly.isSlice;revert a';refine ct<|az<|aZ rfl ?_;by_cases CY:j<(reach f 0).length
 ·refine aJ (b:=decide ((j:Int)<((reach f 0).length:Int))) (decide_eq_true (by omega)) rfl ?_;have ri:=wZ f ((reach f 0).take j) (reach f 0)[j];rw[←List.take_succ_eq_append_getElem CY]at ri;obtain⟨cF,lx⟩:=HM _ (List.getElem_mem CY);have sK:=Dh (List.getElem_mem CY);have UX:gH f 0:=⟨by omega,by have:=lx.1;have:=lx.2;omega⟩;have eH:=bZ (xs:=reach f 0) (n:=(j:Int)) rfl CY;generalize(reach f 0)[j]=n at*;refine aF<|aq<|az<|aI<|az ?_;apply ea (eF (.f (Fact.rs (cu f 0))::(eF (.f (Ai n)::(fe (.f (Fact.rs (dT f (cu f 0) n))::(.f (Fact.rs (dT f (cu f 0) n))::[]))))))) 9 [(8,11)] (by kernel_rfl)
  ·refine pO [[],[]] [.e aD 0,.e aD 0] (St.start _) rfl<|fR [(1,59)] (fun gd hf=>?_) ?_
   ·have eT:=(G.bI _).trans hf.le;refine ah rfl<|aj<|ay rfl<|aC (Wc 175) aK rfl rfl rfl rfl rfl (rJ _ f 0 _ (dt.mono eT) cF UX) fun g' v h1 h2=>?_
    obtain⟨g2,e1,e2,e3,e4⟩:=(St.start gd).jO h1 h2;exact⟨g2,e1,e2.rh,e4⟩
   refine EF [[],[]] rfl<|fR [(3,61),(4,62)] (fun gd hf=>?_) ?_
   ·have eT:=(G.bI _).trans hf.le;exact aat rfl<|aj<|ay rfl<|aR T.ok rfl (cd.mono eT) (y:=n) eH rfl rfl rfl rfl rfl rfl fun b p ys aL gw=>⟨_,rfl,a_.refl _,b,p,rfl,by rw[←show ys=[Value.int .i64 n]from gw];exact aL⟩
   refine fR [(5,63)] (fun gd hf=>?_) ?_
   ·skip;refine ba fun v5 h5=>?_;apply aj;obtain⟨b,p,rfl,aL⟩:=h5;refine ay rfl<|cI T.ok 0 rfl aL rfl rfl<|⟨_,rfl,a_.refl _,?_⟩;exact rfl
   refine fR [(0,58),(2,60),(6,64),(2,60)] (fun gd hf=>?_) ?_
   ·have eT:=(G.bI _).trans hf.le;refine ah rfl<|ba fun v2 h2=>?_;refine ah rfl ?_;refine ba fun v2 h2=>?_
    refine aj<|ay rfl<|aC (Wc 176) aK rfl rfl rfl rfl rfl (FU _ _ f (cu f 0) n _ (dt.mono eT) h2 cF (eG f 0) lx sK) fun g' v h1 h2=>?_
    exact⟨g',rfl,h1,h2⟩
   exact fR [(7,65),(7,65),(7,65)] (fun gd hf=>ba fun v7 h7=>(ba fun v7 h7=>(ba fun v7 h7=>(aj (aaL rfl h7)))))<|gG
  intro g1 aP;refine ba fun v8 h8=>?_;apply aj;replace hs:=hs.dr.call aP;have ai:=(G.bI _).trans aP.le;replace lG:=lG.trans ai;replace ly:=ly.mono ai;have bR:Rs g1 v8 (dT f (cu f 0) n):=h8;clear h8;unfold sM at ri;generalize dT f (cu f 0) n=cy at*;generalize aaE f ((reach f 0).take j)=bl at*;obtain⟨ac,cc,rfl⟩:=bR.isSlice;refine b_<|cG 4 rfl ?_;by_cases nS:0<cy.length
  ·refine bM 69 (b':=true) (decide_eq_true (by omega)) rfl<|Wp 4 rfl ?_;by_cases yy:bl=[]
   ·rw[if_pos ⟨nS,.inl yy⟩]at ri;exact bM 73 (b':=true) (by rw[yy];rfl) rfl<|aX rfl<|aas rfl<|an<|Wp 2 rfl<|aA<|bJ<|aq<|an<|Wp 3 rfl<|aA<|fun a ha=>⟨(reach f 0).length-(j+1),by omega,j+1,_,_,rfl,hs,lG,by omega,rfl,by rw[ri];exact bR,ha.keep ⟨rfl,rfl,rfl,rfl,kW rfl,trivial⟩⟩
   have MS:=List.length_pos_iff.2 yy;refine bM 73 (b':=false) (by simp;omega) rfl<|aX rfl ?_;by_cases fw:cy.length<bl.length
   ·rw[if_pos ⟨nS,.inr fw⟩]at ri;exact aJ (b:=decide ((cy.length:Int)<(bl.length:Int))) (decide_eq_true (by omega)) rfl<|an<|Wp 2 rfl<|aA<|bJ<|aq<|an<|Wp 3 rfl<|aA<|fun a ha=>⟨(reach f 0).length-(j+1),by omega,j+1,_,_,rfl,hs,lG,by omega,rfl,by rw[ri];exact bR,ha.keep ⟨rfl,rfl,rfl,rfl,kW rfl,trivial⟩⟩
   rw[if_neg (fun h=>h.2.elim yy fw)]at ri;exact aQ (b:=decide ((cy.length:Int)<(bl.length:Int))) (decide_eq_false (by omega)) rfl<|aF<|bJ<|aq<|an<|Wp 3 rfl<|aA<|fun a ha=>⟨(reach f 0).length-(j+1),by omega,j+1,_,_,rfl,hs,lG,by omega,rfl,by rw[ri];exact ly,ha.keep ⟨rfl,rfl,rfl,rfl,kW rfl,trivial⟩⟩
  refine bM 69 (b':=false) (decide_eq_false (by omega)) rfl ?_;rw[if_neg (fun h=>nS h.1)]at ri;exact aX rfl<|aar rfl<|aF<|bJ<|aq<|an<|Wp 3 rfl<|aA<|fun a ha=>⟨(reach f 0).length-(j+1),by omega,j+1,_,_,rfl,hs,lG,by omega,rfl,by rw[ri];exact ly,ha.keep ⟨rfl,rfl,rfl,rfl,kW rfl,trivial⟩⟩
 refine aQ (b:=decide ((j:Int)<((reach f 0).length:Int))) (decide_eq_false (by omega)) rfl ?_;rw[List.take_of_length_le (by omega)]at ly⊢;have vC:check f=if aaE f (reach f 0)=[]then(0,[])else(2,aaE f (reach f 0)):=by unfold check;rw[←de];rfl
 generalize aaE f (reach f 0)=bl at*;refine bc<|bg<|bg<|cA<|aq<|az<|aZ rfl ?_;by_cases yy:bl=[]
 ·rw[if_pos yy]at vC;refine aJ (b:=((bl.length:Nat):Int)==0) (by rw[yy];rfl) rfl<|cR<|BO [] [vI 0,.slice none 0 0] [(0,1),(1,1)] rfl<|sN 0 hs rfl fun g1 hs ai=>b_<|aG<|dO<|me T.ok 0 rfl hs rfl rfl rfl<|hs.ret ?_;rw[vC];exact⟨_,_,_,rfl,Rs.nil _⟩
 rw[if_neg yy]at vC;have MS:=List.length_pos_iff.2 yy;refine aQ (b:=((bl.length:Nat):Int)==0) (by simp;omega) rfl<|aF<|aq<|cG 1 rfl<|BO [(0,vI 2),(1,.slice ab bl.length cb)] [vI 2,.slice ab bl.length cb] [(0,1),(1,1)] rfl<|sN 0 hs rfl fun g1 hs ai=>?_;replace ly:=ly.mono ai;refine b_<|aG<|me T.ok 0 rfl hs rfl rfl rfl<|hs.ret ?_;rw[vC];exact⟨_,_,_,rfl,ly⟩
end Go.Proofs.YtbfjdfecgiegpaaGreatDoor
namespace Go.Proofs.YtbfjdfecgiegpaaGreatDoor
open Go Go.K Tryz
set_option maxRecDepth 10000
attribute [local irreducible] W WL cS bh bY bB bA bC cL cD
set_option maxHeartbeats 4000000
theorem qE(v u:Value)(l r:List Int)(g:G)(aH:Rs g v l)(aW:Rs g u r):cN prog 9 #[v,u] g fun _ x=>x= .bool (decide (l=r)):=by
  obtain⟨a,c,rfl⟩:=aH.isSlice;obtain⟨a2,c2,rfl⟩:=aW.isSlice;have hlen:=aH.ef;unfold maxLen at hlen;have hs:=St.start g;refine enter func9 rfl ntmps9 rfl<|aZ rfl<|az<|aZ rfl ?_;by_cases vz:l.length=r.length
  ·refine aQ (b:=(l.length:Int) !=(r.length:Int)) (by simp;omega) rfl<|aF<|aq<|az<|aZ rfl<|aI ?_;have pL:=aH;have JM:=aW;have jH:=G.le.refl g
   refine bK (fun m a' w=> ∃(k:Nat) (g2:G),w=g2.w∧St g g2 []∧G.le g g2∧k≤l.length∧m=l.length-k∧l.take k=r.take k∧
     Fr 26 [] [(0,.slice a l.length c),(1,.slice a2 r.length c2),(5,vI k)] a') l.length
    (fun a' ha=>⟨0,g,rfl,hs,jH,Nat.zero_le _,rfl,by simp,ha.kp rfl⟩) ?_
   clear hs jH aH aW;rintro m a' _ ⟨k,g2,rfl,hs,jH,hk,rfl,de,dW⟩;have aH:=pL.mono jH;have aW:=JM.mono jH;revert a';refine ct<|az<|aZ rfl ?_;by_cases bt:k<l.length
   ·refine aJ (b:=decide ((k:Int)<(l.length:Int))) (by simp;omega) rfl ?_;have QY:k<r.length:=by omega
    refine aF<|aq<|az<|aI<|az ?_;apply bD hs (eF (.f (oH l[k])::(eF (fe (.f (oH r[k])::(eF [])))))) 9 [(8,25)] (by kernel_rfl) rfl
    ·refine EF [[],[]] rfl<|fR [(0,17),(1,18)] (fun gd hf=>?_) ?_
     ·have eT:=(G.bI _).trans hf.le;exact aat rfl<|aj<|ay rfl<|aR T.ok rfl (aH.mono eT) (y:=l[k]) (bZ rfl bt) rfl rfl rfl rfl rfl rfl fun b p ys aL gw=>⟨_,rfl,a_.refl _,b,p,rfl,by rw[←show ys=[Value.int .i64 l[k]]from gw];exact aL⟩
     refine fR [(2,19)] (fun gd hf=>?_) ?_
     ·skip;refine ba fun v2 h2=>?_;apply aj;obtain⟨b,p,rfl,aL⟩:=h2;refine ay rfl<|cI T.ok 0 rfl aL rfl rfl<|⟨_,rfl,a_.refl _,?_⟩;exact rfl
     refine EF [[],[]] rfl<|fR [(4,21),(5,22)] (fun gd hf=>?_) ?_
     ·have eT:=(G.bI _).trans hf.le;exact aat rfl<|aj<|ay rfl<|aR T.ok rfl (aW.mono eT) (y:=r[k]) (bZ rfl QY) rfl rfl rfl rfl rfl rfl fun b p ys aL gw=>⟨_,rfl,a_.refl _,b,p,rfl,by rw[←show ys=[Value.int .i64 r[k]]from gw];exact aL⟩
     refine fR [(6,23)] (fun gd hf=>?_) ?_
     ·skip;refine ba fun v6 h6=>?_;apply aj;obtain⟨b,p,rfl,aL⟩:=h6;refine ay rfl<|cI T.ok 0 rfl aL rfl rfl<|⟨_,rfl,a_.refl _,?_⟩;exact rfl
     exact HW [[3,7]] rfl
    clear hs;intro g1 hs ai;replace jH:=jH.trans ai;apply b_;by_cases he:l[k]=r[k]
    ·refine aQ (b:=l[k] !=r[k]) (by simp[he]) rfl<|aF<|bJ<|aq<|an<|Wp 3 rfl<|aA<|fun a ha=>⟨l.length-(k+1),by omega,k+1,_,rfl,hs,jH,by omega,rfl,?_,ha.keep ⟨rfl,rfl,kW rfl,trivial⟩⟩
     rw[List.take_succ_eq_append_getElem bt,List.take_succ_eq_append_getElem QY,de,he]
    refine aJ (b:=l[k] !=r[k]) (by simp[he]) rfl<|aZ rfl<|aG<|nw rfl hs ?_;rw[decide_eq_false (fun e=>he (by subst e;rfl))]
   refine aQ (b:=decide ((k:Int)<(l.length:Int))) (by simp;omega) rfl ?_;rw[List.take_of_length_le (by omega),List.take_of_length_le (by omega)]at de;refine bc<|bg<|bg<|cA<|aq<|aZ rfl<|aG<|nw rfl hs ?_;rw[decide_eq_true de]
  refine aJ (b:=(l.length:Int) !=(r.length:Int)) (by simp;omega) rfl<|aZ rfl<|aG<|nw rfl hs ?_;rw[decide_eq_false (fun e=>vz (by rw[e]))]
end Go.Proofs.YtbfjdfecgiegpaaGreatDoor
namespace Go.Proofs.YtbfjdfecgiegpaaGreatDoor
open Go Go.K Tryz
set_option maxRecDepth 10000
attribute [local irreducible] W WL cS bh bY bB bA bC cL cD
set_option maxHeartbeats 16000000
theorem Fx(xs:List UInt8):(xs.map fun b:UInt8=>(b.toNat:Int)).map (fun m=>UInt8.ofNat m.toNat)=xs:=by
 rw[List.map_map];conv=>rhs;rw[←List.map_id xs]
 exact List.map_congr_left fun b _=>by simp
theorem ZL(k:Nat)(h:k<10):IntKind.u8.wrap (48+(k:Int))=((48+k:Nat):Int):=by
 have:k=0∨k=1∨k=2∨k=3∨k=4∨k=5∨k=6∨k=7∨k=8∨k=9:=by omega
 rcases this with rfl|rfl|rfl|rfl|rfl|rfl|rfl|rfl|rfl|rfl<;>rfl
def CH(n0 m:Nat)(s:List UInt8):Prop:=(m=0∧s≠[]∧dec n0=s)∨((0<m∨s=[])∧dec n0=dec m++s)
theorem CH.next{n0 m:Nat}{s:List UInt8}(h:CH n0 m s)(hc:s=[]∨0<m):CH n0 (m/10) (UInt8.ofNat (48+m % 10)::s):=by
 have h2:dec n0=dec m++s:=by
  rcases h with⟨h1,h2,_⟩|⟨_,h3⟩
  ·rcases hc with h|h
   ·exact absurd h h2
   omega
  exact h3
 by_cases hm:m<10
 ·refine .inl ⟨by omega,by simp,?_⟩;rw[h2,ie hm,show m % 10=m by omega];rfl
 refine .inr ⟨.inl (by omega),?_⟩;rw[h2,oz hm];simp
theorem CH.done{n0 m:Nat}{s:List UInt8}(h:CH n0 m s)(hs:s≠[])(hm: ¬0<m):dec n0=s:=by
 rcases h with⟨_,_,h⟩|⟨h1,h2⟩
 ·exact h
 rcases h1 with h|h
 ·omega
 exact absurd h hs
theorem CH.len{n0 m:Nat}{s:List UInt8}(h:CH n0 m s):s.length≤(dec n0).length:=by
 rcases h with⟨_,_,h⟩|⟨_,h⟩
 ·rw[h];exact Nat.le_refl _
 rw[h,List.length_append];omega
theorem JO(n:Int)(g:G)(hn:pj n):cN prog 223 #[vI n] g fun _ r=>r= .string (bs (eW n)):=by
 obtain⟨n0,rfl⟩: ∃m:Nat,n=m:=⟨n.toNat,by have:=hn.1;omega⟩;have Sd:=CA hn;have hb:=hn.2;have Yk:eW (n0:Int)=dec n0:=rfl;rw[Yk]at Sd⊢;have hs:=St.start g;refine enter func223 rfl ntmps223 rfl<|aZ rfl<|aZ rfl<|az<|aI ?_;refine bK (fun mm a' w=> ∃(m0:Nat) (s:List UInt8) (g':G),CH n0 m0 s∧w=g'.w∧St g g' []∧m0≤1000000∧mm=m0+(if s=[]then 1 else 0)∧
  Fr 21 [] [(0,vI m0),(3,.string (bs s))] a') (n0+1) (fun a' ha=>⟨n0,[],g,.inr ⟨.inr rfl,by simp⟩,rfl,hs,by omega,rfl,ha.kp rfl⟩) ?_
 clear hs;rintro mm a' _ ⟨m0,s,g',hD,rfl,hs,hm,rfl,dW⟩;have dS:=hD.len;revert a';by_cases Vo:s=[]
 ·subst Vo;refine ct<|az<|cG 3 rfl<|bM 6 (b':=true) (by simp[cM]) rfl<|aX rfl<|aJ (b:=_) ?_ rfl ?_
  ·simp
  have j_:=hD.next (by exact .inl rfl);have Yl:(UInt8.ofNat (48+m0 % 10)).toNat=48+m0 % 10:=uM (by omega);generalize UInt8.ofNat (48+m0 % 10)=d at*;refine aF<|aq<|aI<|cG 4 rfl ?_
  refine nE (.int .u8 (d.toNat:Int)) (t:=13) rfl (congrArg (Value.int .u8) (by show IntKind.u8.wrap (IntKind.i64.wrap (48+((m0 % 10:Nat):Int)))=_;rw[Yl,wq];exact ZL (m0 % 10) (by omega))) ?_;refine BP [(0,.int .u8 (d.toNat:Int))] [.int .u8 (d.toNat:Int)] hs rfl rfl fun bl gl hs ai=>?_;obtain⟨gz,gF,cK,gW,aH⟩:=hs.cP (α:=UInt8) (xs:=[d]) (i:=0) rfl (cY.bytes _ [d]);rw[←gF];replace hs:=cK;clear cK;replace hs:St g gz []:=hs;obtain⟨_,news,JP,iu⟩:=Src.jx aH;obtain rfl:=cY.uC JP;refine ak rfl rfl<|oe T.ok (ns:=[(d.toNat:Int)]) rfl rfl rfl rfl rfl rfl rfl rfl iu ?_;rw[show([(d.toNat:Int)].map fun m=>UInt8.ofNat m.toNat)=[d]from Fx [d]];clear iu JP aH;exact Wp 1 rfl<|ak rfl rfl<|p6 (p:=[d]) (q:=[]) rfl rfl rfl (by simp only[List.length_singleton];omega)<|aX rfl<|an<|Wp 3 rfl<|aA<|bJ<|fun a ha=>⟨m0/10+0,by simp;omega,m0/10,[d]++[],gz,j_,rfl,hs,by omega,by simp,ha.keep ⟨kI rfl (show IntKind.i64.wrap ((m0/10:Nat):Int)=_ from wq),rfl,trivial⟩⟩
 refine ct<|az<|cG 3 rfl<|bM 6 (b':=false) (by rw[cM];simp[Vo]) rfl ?_;by_cases ZM:0<m0
 ·refine aX rfl<|aJ (b:=_) ?_ rfl ?_
  ·simp;omega
  have j_:=hD.next (by exact .inr ZM);have Yl:(UInt8.ofNat (48+m0 % 10)).toNat=48+m0 % 10:=uM (by omega);generalize UInt8.ofNat (48+m0 % 10)=d at*;refine aF<|aq<|aI<|cG 4 rfl ?_
  refine nE (.int .u8 (d.toNat:Int)) (t:=13) rfl (congrArg (Value.int .u8) (by show IntKind.u8.wrap (IntKind.i64.wrap (48+((m0 % 10:Nat):Int)))=_;rw[Yl,wq];exact ZL (m0 % 10) (by omega))) ?_;refine BP [(0,.int .u8 (d.toNat:Int))] [.int .u8 (d.toNat:Int)] hs rfl rfl fun bl gl hs ai=>?_;obtain⟨gz,gF,cK,gW,aH⟩:=hs.cP (α:=UInt8) (xs:=[d]) (i:=0) rfl (cY.bytes _ [d]);rw[←gF];replace hs:=cK;clear cK;replace hs:St g gz []:=hs;obtain⟨_,news,JP,iu⟩:=Src.jx aH;obtain rfl:=cY.uC JP;refine ak rfl rfl<|oe T.ok (ns:=[(d.toNat:Int)]) rfl rfl rfl rfl rfl rfl rfl rfl iu ?_;rw[show([(d.toNat:Int)].map fun m=>UInt8.ofNat m.toNat)=[d]from Fx [d]];clear iu JP aH;exact Wp 1 rfl<|ak rfl rfl<|p6 (p:=[d]) (q:=s) rfl rfl rfl (by simp only[List.length_singleton];omega)<|aX rfl<|an<|Wp 3 rfl<|aA<|bJ<|fun a ha=>⟨m0/10+0,by simp[Vo];omega,m0/10,[d]++s,gz,j_,rfl,hs,by omega,by simp,ha.keep ⟨kI rfl (show IntKind.i64.wrap ((m0/10:Nat):Int)=_ from wq),rfl,trivial⟩⟩
 refine aX rfl<|aQ (b:=_) ?_ rfl ?_
 ·simp;omega
 have DA:=hD.done Vo ZM;rw[DA];exact bc<|bg<|bg<|cA<|aq<|aZ rfl<|aG (nw rfl hs rfl)
end Go.Proofs.YtbfjdfecgiegpaaGreatDoor
namespace Go.Proofs.YtbfjdfecgiegpaaGreatDoor
open Go Go.K
def acc(first:Bool)(f:bG):List (List UInt8)→Option bG
 |[]=>some f
 |l::r=>(mI first f l).bind fun f'=>acc false f' r
theorem GN(p r:List UInt8):p.isPrefixOf (p++r)=true:=by rw[List.isPrefixOf_iff_prefix];exact List.prefix_append p r
theorem JH(i:Nat)(s:Step):iY.isPrefixOf (kZ i s)=true:=by rw[rz,List.append_assoc];exact GN _ _
structure Yg(f:bG):Prop where
 ZI:eg f=true
 one:1≤f.steps.length
 steps:f.steps.length≤40
 Ye:f.windows.length≤20
 all: ∀s∈f.steps,cf s f.steps.length=true
 ok:fq f.steps.length [] f.windows=true
structure V8 where
 ig:List (List UInt8)
 line:Option (List UInt8)
end Go.Proofs.YtbfjdfecgiegpaaGreatDoor
namespace Go.Proofs.YtbfjdfecgiegpaaGreatDoor
open Go Go.K Tryz
set_option maxRecDepth 10000
attribute [local irreducible] W WL cS bh bY bB bA bC cL cD
set_option maxHeartbeats 4000000
def Ek(s:List UInt8)(k fr:Nat)(out:List (List UInt8)):Prop:=
 (k≤s.length∧fr≤k∧bW 10 s=out++bW 10 (s.drop fr)∧(10:UInt8)∉(s.drop fr).take (k-fr))∨(k=s.length+1∧bW 10 s=out)
theorem Ek.next{s:List UInt8}{k fr:Nat}{out:List (List UInt8)}(h:Ek s k fr out)(hk:k<s.length)(hn:s[k]≠10):Ek s (k+1) fr out:=by
 rcases h with⟨h1,h2,h3,h4⟩|⟨h1,_⟩
 ·refine .inl ⟨hk,by omega,h3,?_⟩;rw[show k+1-fr=(k-fr)+1 by omega,List.take_add_one];intro hm;rcases List.mem_append.1 hm with hm|hm
  ·exact h4 hm
  rw[List.getElem?_drop,show fr+(k-fr)=k by omega,List.getElem?_eq_getElem hk]at hm;simp at hm;exact hn hm.symm
 omega
theorem Ek.cut{s:List UInt8}{k fr:Nat}{out:List (List UInt8)}(h:Ek s k fr out)(hk:k≤s.length)(hn: ∀h:k<s.length,s[k]=10):fr≤k∧Ek s (k+1) (k+1) (out++[(s.take k).drop fr]):=by
 rcases h with⟨h1,h2,h3,h4⟩|⟨h1,_⟩
 ·refine⟨h2,?_⟩;rw[List.drop_take];by_cases bt:k<s.length
  ·refine .inl ⟨bt,Nat.le_refl _,?_,by simp⟩;rw[h3,List.append_assoc];congr 1;have e:s.drop fr=(s.drop fr).take (k-fr)++10::s.drop (k+1):=by rw[←hn bt,←List.drop_eq_getElem_cons bt,show s.drop k=(s.drop fr).drop (k-fr) by rw[List.drop_drop,show fr+(k-fr)=k by omega],List.take_append_drop]
   rw[e,uN 10 _ _ h4,←e];rfl
  refine .inr ⟨by omega,?_⟩;rw[h3];congr 1;have e:(s.drop fr).take (k-fr)=s.drop fr:=List.take_of_length_le (by rw[List.length_drop];omega);rw[e]at h4⊢;exact ql 10 _ h4
 omega
theorem Me(s:List UInt8)(g:G)(hlen:s.length≤1000000):
  cN prog 167 #[.string (bs s)] g fun g' r=>Rs g' r ((bW 10 s).map wh.mk):=by
 have hs:=St.start g;have ar:=G.le.refl g;refine enter func167 rfl ntmps167 rfl ?_;replace hs:=hs.eP 9 1 none
 (iterate 3 refine aZ rfl ?_);apply az;refine aZ rfl ?_;apply aI
 refine bK (fun m a' w=> ∃(k fr:Nat) (out:List (List UInt8)) (ra:Option Addr) (rc:Nat) (g':G),w=g'.w∧St g g' [.row 9 1 (.slice ra out.length rc) out.length (out.map fun n=>Value.string (bs n))]∧G.le g g'∧k≤s.length+1∧Ek s k fr out∧out.length≤k∧m=s.length+1-k∧
  Fr 32 [] [(0,.string (bs s)),(3,.slice ra out.length rc),(4,vI fr),(5,vI k)] a') (s.length+1) (fun a' ha=>⟨0,0,[],none,0,g,rfl,hs,G.le.refl _,Nat.zero_le _,.inl ⟨Nat.zero_le _,Nat.zero_le _,rfl,by simp⟩,Nat.zero_le _,rfl,ha.kp rfl⟩) ?_
 clear hs;rintro m a' _ ⟨k,fr,out,ra,rc,g',rfl,hs,ar,hk,hI,Hz,rfl,dW⟩;revert a';refine ct<|az<|aZ rfl ?_;by_cases bt:k≤s.length
 ·refine aJ (b:=_) ?_ rfl ?_
  ·rw[cg];exact decide_eq_true (by omega)
  by_cases he:k=s.length
  ·refine aF<|aq<|az<|aI<|cG 5 rfl<|bM 16 (b':=true) (by rw[cg];simp[he]) rfl<|aX rfl<|aas rfl ?_;have hc:=hI.cut bt (fun h=>by omega);refine cG 4 rfl<|ak rfl rfl<|nD T.ok (s:=s) (a:=fr) (b:=k) rfl rfl rfl rfl ⟨_,rfl⟩ ⟨_,rfl⟩ hc.1 bt<|BP [(0,.string (bs ((s.take k).drop fr)))] [.string (bs ((s.take k).drop fr))] hs rfl rfl fun VI VJ hs ai=>?_;replace ar:=ar.trans ai;refine ak rfl rfl<|bU T.ok 1 rfl hs rfl rfl rfl rfl rfl rfl rfl (by decide) rfl (Src.eI (hs.own 0 _ rfl).1).2 (by simp[Value.oneCell']) (by show(out.length+1)*16≤_;omega) (by unfold maxLen;show out.length+1≤_;omega) fun a9 c9 g9 hs ai=>?_;replace ar:=ar.trans ai;replace hs:=hs.drop 0;refine aX rfl<|an<|Wp 3 rfl<|aA<|bJ<|aq<|an<|Wp 3 rfl<|aA<|fun a ha=>⟨s.length+1-(k+1),by omega,k+1,k+1,out++[(s.take k).drop fr],a9,c9,g9,rfl,?_,ar,by omega,hc.2,by rw[List.length_append,List.length_singleton];omega,rfl,ha.keep ⟨rfl,by rw[List.length_append,List.length_singleton];rfl,kW rfl,kW rfl,trivial⟩⟩
   rw[List.map_append,List.length_append,List.length_singleton];exact hs
  have yA:k<s.length:=by omega
  refine aF<|aq<|az<|aI<|cG 5 rfl<|bM 16 (b':=false) (by rw[cg];simp;omega) rfl<|Wp 2 rfl<|ak rfl rfl<|fg T.ok rfl rfl rfl rfl rfl (by omega) (by simpa using yA)<|aX rfl ?_;by_cases vG:s[k]=10
  ·refine aJ (b:=_) ?_ rfl ?_
   ·simp[vG]
   have hc:=hI.cut bt (fun h=>vG);refine cG 4 rfl<|ak rfl rfl<|nD T.ok (s:=s) (a:=fr) (b:=k) rfl rfl rfl rfl ⟨_,rfl⟩ ⟨_,rfl⟩ hc.1 bt<|BP [(0,.string (bs ((s.take k).drop fr)))] [.string (bs ((s.take k).drop fr))] hs rfl rfl fun VI VJ hs ai=>?_;replace ar:=ar.trans ai;refine ak rfl rfl<|bU T.ok 1 rfl hs rfl rfl rfl rfl rfl rfl rfl (by decide) rfl (Src.eI (hs.own 0 _ rfl).1).2 (by simp[Value.oneCell']) (by show(out.length+1)*16≤_;omega) (by unfold maxLen;show out.length+1≤_;omega) fun a9 c9 g9 hs ai=>?_;replace ar:=ar.trans ai;replace hs:=hs.drop 0;refine aX rfl<|an<|Wp 3 rfl<|aA<|bJ<|aq<|an<|Wp 3 rfl<|aA<|fun a ha=>⟨s.length+1-(k+1),by omega,k+1,k+1,out++[(s.take k).drop fr],a9,c9,g9,rfl,?_,ar,by omega,hc.2,by rw[List.length_append,List.length_singleton];omega,rfl,ha.keep ⟨rfl,by rw[List.length_append,List.length_singleton];rfl,kW rfl,kW rfl,trivial⟩⟩
   rw[List.map_append,List.length_append,List.length_singleton];exact hs
  refine aQ (b:=_) ?_ rfl ?_
  ·simp;intro h;exact vG (UInt8.toNat_inj.1 (show s[k].toNat=10 by omega))
  have hc:=hI.next yA vG;exact aF<|bJ<|aq<|an<|Wp 3 rfl<|aA<|fun a ha=>⟨s.length+1-(k+1),by omega,k+1,fr,out,ra,rc,_,rfl,hs,ar,by omega,hc,by omega,rfl,ha.keep ⟨rfl,rfl,rfl,kW rfl,trivial⟩⟩
 refine aQ (b:=_) ?_ rfl ?_
 ·rw[cg];exact decide_eq_false (by omega)
 have BD:bW 10 s=out:=by
  rcases hI with⟨h1,_⟩|⟨_,h2⟩
  ·omega
  exact h2
 obtain⟨gy,Mh,Hd,PK,oZ⟩:=hs.cP (α:=wh) (xs:=out.map wh.mk) (i:=0) rfl (cY.strs _ _);replace hs:=Hd;rw[←Mh];exact bc<|bg<|bg<|cA<|aq<|aZ rfl<|aG<|nw rfl hs (by rw[BD];exact oZ)
end Go.Proofs.YtbfjdfecgiegpaaGreatDoor
namespace Go.Proofs.YtbfjdfecgiegpaaGreatDoor
open Go Go.K Tryz
set_option maxRecDepth 10000
attribute [local irreducible] W WL cS bh bY bB bA bC cL cD
set_option maxHeartbeats 16000000
def pk(b:Nat)(s:List UInt8)(at':Nat)(ok:Bool):df:=vO b [.string (bs s),vI at',.bool ok] 239
def yd(b:Nat)(s:List UInt8)(L:List df)(g0 g':G)(ok:Bool)(r:List UInt8):Prop:=∃at':Nat,at'≤s.length∧s.drop at'=r∧St g0 g' (pk b s at' ok::L)
theorem vr{w r:List UInt8}:w.isPrefixOf r=(decide (w.length≤r.length)&&(r.take w.length==w)):=by
 by_cases h:w.isPrefixOf r=true
 ·obtain⟨t,rfl⟩:=List.isPrefixOf_iff_prefix.1 h;rw[h];simp
 have h0:w.isPrefixOf r=false:=Bool.eq_false_iff.2 h;rw[h0];cases hq:(r.take w.length==w)with
 |false=>simp
 |true=>
  have e:r.take w.length=w:=by simpa using hq
  exact absurd (List.isPrefixOf_iff_prefix.2 ⟨r.drop w.length,by conv=>rhs;rw[←List.take_append_drop w.length r,e]⟩) h
theorem kG{b:Nat}{s w:List UInt8}{at':Nat}{ok:Bool}{g0 g:G}{L:List df}(Gg:at'≤s.length)(dS:s.length≤1000000)(ZN:w.length≤1000000)(hs:St g0 g (pk b s at' ok::L)):
  CallsIn Wd 0 prog 220 #[vP b,.string (bs w)] g.w (db g fun g' r=>r= .tuple #[]∧yd b s L g0 g' (dD w ok (s.drop at')).1 (dD w ok (s.drop at')).2):=by
 have ar:=G.le.refl g;unfold yd pk at*;refine enter func220 rfl ntmps220 rfl ?_;have Ps:w.isPrefixOf (s.drop at')=(decide (w.length≤s.length-at')&&((s.take (at'+w.length)).drop at'==w)):=by rw[vr,List.length_drop,List.drop_take,Nat.add_sub_cancel_left]
 cases ok with
 |false=>
  have hw:dD w false (s.drop at')=(false,s.drop at'):=by unfold dD;rw[if_neg (by simp)]
  rw[hw];refine az<|az ?_;apply bD hs (dn (dn (dn (dn (dn []))))) 40 [(39,43)] (by kernel_rfl) rfl
  ·exact EG [[],[0],[1],[2],[3],[4],[5],[6,5],[7,5],[8,5],[9,5],[5],[11,5],[12,5],[13,5],[10,14,5],[5],[16,5],[15,17,5],[5,18],[19],[20],[21,20],[22,20],[23,20],[20],[25,20],[26,20],[27,20],[20],[29,20],[30,20],[31,20],[20],[33,20],[32,34,20],[24,28,35,20],[20],[36,37,20],[20,38]] [.o 0] hs rfl
  clear hs;intro g1 hs ai;replace ar:=G.le.trans ar ai;refine b_<|aas rfl<|cG 3 rfl<|sN 0 hs rfl fun g1 hs ai=>?_;replace ar:=G.le.trans ar ai;exact b_<|aG<|dO<|rO rfl (db.intro ar ⟨rfl,at',Gg,rfl,hs⟩)
 |true=>
  cases e1:decide (((s.length-at':Nat):Int)<(w.length:Int))with
  |true=>
   have bt: ¬w.length≤s.length-at':=by simp at e1;omega
   have hw:dD w true (s.drop at')=(false,s.drop at'):=by unfold dD;rw[if_neg];rw[Ps,decide_eq_false bt];simp
   rw[hw];refine az<|az ?_;apply bD hs (dn (dn (dn (dn (dn []))))) 40 [(39,43)] (by kernel_rfl) rfl
   ·exact pO [[],[0],[1],[2],[3],[4],[5],[6,5],[7,5],[8,5],[9,5],[5],[11,5],[12,5],[13,5]] [.o 0,.o 0,.o 0] hs rfl<|fR [(10,14),(14,18),(5,9)] (fun gd hf=>aay rfl (aaL rfl (congrArg (Value.int .i64) (show _=((s.length-at':Nat):Int)from by rw[cg,wq];omega))))<|EF [[5],[16,5]] rfl<|fR [(15,19),(17,21),(5,9)] (fun gd hf=>aay rfl (aaL rfl (congrArg Value.bool (show _=true from by rw[cg];exact e1))))<|HW [[5,18],[19],[20],[21,20],[22,20],[23,20],[20],[25,20],[26,20],[27,20],[20],[29,20],[30,20],[31,20],[20],[33,20],[32,34,20],[24,28,35,20],[20],[36,37,20],[20,38]] rfl
   clear hs;intro g1 hs ai;replace ar:=G.le.trans ar ai;refine b_<|aas rfl<|cG 3 rfl<|sN 0 hs rfl fun g1 hs ai=>?_;replace ar:=G.le.trans ar ai;exact b_<|aG<|dO<|rO rfl (db.intro ar ⟨rfl,at',Gg,rfl,hs⟩)
  |false=>
   have hle:w.length≤s.length-at':=by simp at e1;omega
   cases e2:((s.take (at'+w.length)).drop at'==w)with
   |false=>
    have hw:dD w true (s.drop at')=(false,s.drop at'):=by unfold dD;rw[if_neg];rw[Ps,e2];simp
    rw[hw];refine az<|az ?_;apply bD hs (dn (dn (dn (dn (dn []))))) 40 [(39,43)] (by kernel_rfl) rfl
    ·exact pO [[],[0],[1],[2],[3],[4],[5],[6,5],[7,5],[8,5],[9,5],[5],[11,5],[12,5],[13,5]] [.o 0,.o 0,.o 0] hs rfl<|fR [(10,14),(14,18),(5,9)] (fun gd hf=>aay rfl (aaL rfl (congrArg (Value.int .i64) (show _=((s.length-at':Nat):Int)from by rw[cg,wq];omega))))<|EF [[5],[16,5]] rfl<|fR [(15,19),(17,21),(5,9)] (fun gd hf=>aay rfl (aaL rfl (congrArg Value.bool (show _=false from by rw[cg];exact e1))))<|pO [[5,18],[19],[20],[21,20],[22,20],[23,20],[20],[25,20],[26,20],[27,20],[20],[29,20],[30,20],[31,20],[20],[33,20]] [.o 0,.o 0,.o 0] hs rfl<|fR [(32,36),(34,38),(20,24)] (fun gd hf=>aay rfl (aaL rfl (congrArg (Value.int .i64) (show _=((at'+w.length:Nat):Int)from by rw[cg,wq];omega))))<|fR [(24,28),(28,32),(35,39),(20,24)] (fun gd hf=>aaH rfl (ay rfl (nD T.ok (s:=s) (a:=at') (b:=at'+w.length) rfl rfl rfl rfl ⟨_,rfl⟩ ⟨_,rfl⟩ (by omega) (by omega) (aav rfl))))<|EF [[20]] rfl<|fR [(36,40),(37,41),(20,24)] (fun gd hf=>aay rfl (ay rfl (AV (neg:=true) (p:=(s.take (at'+w.length)).drop at') (q:=w) rfl rfl rfl (aav (congrArg Value.bool (show(true !=_)=true from by rw[e2];rfl))))))<|HW [[20,38]] rfl
    clear hs;intro g1 hs ai;replace ar:=G.le.trans ar ai;refine b_<|aas rfl<|cG 3 rfl<|sN 0 hs rfl fun g1 hs ai=>?_;replace ar:=G.le.trans ar ai;exact b_<|aG<|dO<|rO rfl (db.intro ar ⟨rfl,at',Gg,rfl,hs⟩)
   |true=>
    have hw:dD w true (s.drop at')=(true,s.drop (at'+w.length)):=by unfold dD;rw[if_pos ⟨rfl,by rw[Ps,e2,decide_eq_true hle];rfl⟩,List.drop_drop]
    rw[hw];refine az<|az ?_;apply bD hs (dn (dn (dn (dn (dn []))))) 40 [(39,43)] (by kernel_rfl) rfl
    ·exact pO [[],[0],[1],[2],[3],[4],[5],[6,5],[7,5],[8,5],[9,5],[5],[11,5],[12,5],[13,5]] [.o 0,.o 0,.o 0] hs rfl<|fR [(10,14),(14,18),(5,9)] (fun gd hf=>aay rfl (aaL rfl (congrArg (Value.int .i64) (show _=((s.length-at':Nat):Int)from by rw[cg,wq];omega))))<|EF [[5],[16,5]] rfl<|fR [(15,19),(17,21),(5,9)] (fun gd hf=>aay rfl (aaL rfl (congrArg Value.bool (show _=false from by rw[cg];exact e1))))<|pO [[5,18],[19],[20],[21,20],[22,20],[23,20],[20],[25,20],[26,20],[27,20],[20],[29,20],[30,20],[31,20],[20],[33,20]] [.o 0,.o 0,.o 0] hs rfl<|fR [(32,36),(34,38),(20,24)] (fun gd hf=>aay rfl (aaL rfl (congrArg (Value.int .i64) (show _=((at'+w.length:Nat):Int)from by rw[cg,wq];omega))))<|fR [(24,28),(28,32),(35,39),(20,24)] (fun gd hf=>aaH rfl (ay rfl (nD T.ok (s:=s) (a:=at') (b:=at'+w.length) rfl rfl rfl rfl ⟨_,rfl⟩ ⟨_,rfl⟩ (by omega) (by omega) (aav rfl))))<|EF [[20]] rfl<|fR [(36,40),(37,41),(20,24)] (fun gd hf=>aay rfl (ay rfl (AV (neg:=true) (p:=(s.take (at'+w.length)).drop at') (q:=w) rfl rfl rfl (aav (congrArg Value.bool (show(true !=_)=false from by rw[e2];rfl))))))<|HW [[20,38]] rfl
    clear hs;intro g1 hs ai;replace ar:=G.le.trans ar ai;refine b_<|aar rfl<|aF<|aq<|an<|Wm 10 [.o 0] hs rfl<|nE (vI ((at'+w.length:Nat):Int)) (t:=54) rfl (congrArg (Value.int .i64) (by rw[cg,wq];omega))<|sN 0 hs rfl fun g1 hs ai=>?_;replace ar:=G.le.trans ar ai;exact aA<|lC rfl (db.intro ar ⟨rfl,at'+w.length,by omega,rfl,hs⟩)
theorem CI{b:Nat}{s w:List UInt8}{at':Nat}{ok:Bool}{g0 g:G}{L:List df}(Gg:at'≤s.length)(dS:s.length≤1000000)(ZN:w.length≤1000000)(hs:St g0 g (pk b s at' ok::L)):
  CallsIn Wd 0 prog 225 #[vP b,.string (bs w)] g.w (db g fun g' r=>r= .bool (jm w ok (s.drop at'))∧St g0 g' (pk b s at' ok::L)):=by
 have ar:=G.le.refl g;unfold pk at*;refine enter func225 rfl ntmps225 rfl ?_;have Ps:w.isPrefixOf (s.drop at')=(decide (w.length≤s.length-at')&&((s.take (at'+w.length)).drop at'==w)):=by rw[vr,List.length_drop,List.drop_take,Nat.add_sub_cancel_left]
 unfold jm;rw[Ps];cases ok with
 |false=>
  refine aZ rfl<|az ?_;apply bD hs (dn (dn (dn (dn (gU (eF (fe []))))))) 39 [(38,43)] (by kernel_rfl) rfl
  ·exact EG [[],[0],[1],[2],[3],[4],[5,4],[6,4],[7,4],[8,4],[4],[10,4],[11,4],[12,4],[9,13,4],[4],[15,4],[14,16,4],[4,17],[18],[19],[20,19],[21,19],[22,19],[19],[24,19],[25,19],[26,19],[19],[28,19],[29,19],[30,19],[19],[32,19],[31,33,19],[23,27,34,19],[19],[35,36,19],[19,37]] [.o 0] hs rfl
  clear hs;intro g1 hs ai;replace ar:=G.le.trans ar ai;exact aX rfl<|aG (aaq rfl (db.intro ar ⟨rfl,hs⟩))
 |true=>
  cases e1:decide (((w.length:Nat):Int)≤((s.length-at':Nat):Int))with
  |false=>
   have bt: ¬w.length≤s.length-at':=by simp at e1;omega
   rw[decide_eq_false bt];refine aZ rfl<|az ?_;apply bD hs (dn (dn (dn (dn (gU (eF (fe []))))))) 39 [(38,43)] (by kernel_rfl) rfl
   ·exact pO [[],[0],[1],[2],[3],[4],[5,4],[6,4],[7,4],[8,4],[4],[10,4],[11,4],[12,4]] [.o 0,.o 0,.o 0] hs rfl<|fR [(9,14),(13,18),(4,9)] (fun gd hf=>aay rfl (aaL rfl (congrArg (Value.int .i64) (show _=((s.length-at':Nat):Int)from by rw[cg,wq];omega))))<|EF [[4],[15,4]] rfl<|fR [(14,19),(16,21),(4,9)] (fun gd hf=>aay rfl (aaL rfl (congrArg Value.bool (show _=false from by rw[cg];exact e1))))<|HW [[4,17],[18],[19],[20,19],[21,19],[22,19],[19],[24,19],[25,19],[26,19],[19],[28,19],[29,19],[30,19],[19],[32,19],[31,33,19],[23,27,34,19],[19],[35,36,19],[19,37]] rfl
   clear hs;intro g1 hs ai;replace ar:=G.le.trans ar ai;exact aX rfl<|aG (aaq rfl (db.intro ar ⟨rfl,hs⟩))
  |true=>
   have hle:w.length≤s.length-at':=by simp at e1;omega
   rw[decide_eq_true hle];refine aZ rfl<|az ?_;apply bD hs (dn (dn (dn (dn (gU (eF (fe []))))))) 39 [(38,43)] (by kernel_rfl) rfl
   ·exact pO [[],[0],[1],[2],[3],[4],[5,4],[6,4],[7,4],[8,4],[4],[10,4],[11,4],[12,4]] [.o 0,.o 0,.o 0] hs rfl<|fR [(9,14),(13,18),(4,9)] (fun gd hf=>aay rfl (aaL rfl (congrArg (Value.int .i64) (show _=((s.length-at':Nat):Int)from by rw[cg,wq];omega))))<|EF [[4],[15,4]] rfl<|fR [(14,19),(16,21),(4,9)] (fun gd hf=>aay rfl (aaL rfl (congrArg Value.bool (show _=true from by rw[cg];exact e1))))<|pO [[4,17],[18],[19],[20,19],[21,19],[22,19],[19],[24,19],[25,19],[26,19],[19],[28,19],[29,19],[30,19],[19],[32,19]] [.o 0,.o 0,.o 0] hs rfl<|fR [(31,36),(33,38),(19,24)] (fun gd hf=>aay rfl (aaL rfl (congrArg (Value.int .i64) (show _=((at'+w.length:Nat):Int)from by rw[cg,wq];omega))))<|fR [(23,28),(27,32),(34,39),(19,24)] (fun gd hf=>aaH rfl (ay rfl (nD T.ok (s:=s) (a:=at') (b:=at'+w.length) rfl rfl rfl rfl ⟨_,rfl⟩ ⟨_,rfl⟩ (by omega) (by omega) (aav rfl))))<|EF [[19]] rfl<|fR [(35,40),(36,41),(19,24)] (fun gd hf=>aay rfl (ay rfl (AV (neg:=false) (p:=(s.take (at'+w.length)).drop at') (q:=w) rfl rfl rfl (aav (congrArg Value.bool (show(false !=_)=((s.take (at'+w.length)).drop at'==w)from by simp))))))<|HW [[19,37]] rfl
   clear hs;intro g1 hs ai;replace ar:=G.le.trans ar ai;exact aX rfl<|aG (aaq rfl (db.intro ar ⟨rfl,hs⟩))
end Go.Proofs.YtbfjdfecgiegpaaGreatDoor
namespace Go.Proofs.YtbfjdfecgiegpaaGreatDoor
open Go Go.K Tryz
set_option maxRecDepth 10000
attribute [local irreducible] W WL cS bh bY bB bA bC cL cD
set_option maxHeartbeats 16000000
theorem PI{n:Int}(h:0≤n)(h2:n<256):IntKind.u8.wrap n=n:=by unfold IntKind.wrap;simp[IntKind.signed,IntKind.bits];omega
theorem Ym(c:UInt8)(h:48≤c.toNat):IntKind.u8.wrap ((c.toNat:Int)-48)=((c.toNat-48:Nat):Int):=by
 have h2:c.toNat<256:=c.toNat_lt;have e:(c.toNat:Int)-48=((c.toNat-48:Nat):Int):=by omega
 rw[e];exact PI (by omega) (by omega)
theorem GU(n:Nat):fA n []=(n,[]):=rfl
theorem sg{n:Nat}{c:UInt8}{t:List UInt8}(h: ¬(n≤1000000∧fy c=true)):fA n (c::t)=(n,c::t):=by rw[fA,if_neg h]
theorem JQ{n:Nat}{c:UInt8}{t:List UInt8}(h:n≤1000000∧fy c=true):fA n (c::t)=fA (10*n+(c.toNat-48)) t:=by rw[fA,if_pos h]
theorem qW(c:UInt8):fy c=true↔48≤c.toNat∧c.toNat≤57:=by unfold fy;simp
theorem qX{s:List UInt8}{a0 a1 n:Nat}(h:fA 0 (s.drop a0)=(n,s.drop a1))(h0:a0≤a1)(h1:a1≤s.length):
  mX (s.drop a0)=(decide (a1=a0)||(decide (1<a1-a0)&&s[a0]? ==some 48)||decide (1000000<n)):=by
 unfold mX;rw[h];dsimp only;rw[List.length_drop,List.length_drop,List.head?_drop];have e1:(s.length-a1==s.length-a0)=decide (a1=a0):=by
  by_cases hh:a1=a0
  ·subst hh;simp
  rw[decide_eq_false hh,beq_eq_false_iff_ne];omega
 have e2:s.length-a0-(s.length-a1)=a1-a0:=by omega
 rw[e1,e2]
theorem fX{b:Nat}{s:List UInt8}{a0:Nat}{ok:Bool}{g0 g:G}{L:List df}(Gg:a0≤s.length)(dS:s.length≤1000000)(hs:St g0 g (pk b s a0 ok::L)):
  CallsIn Wd 0 prog 221 #[vP b] g.w (db g fun g' r=>r=vI ((d_ ok (s.drop a0)).1:Nat)∧yd b s L g0 g' (d_ ok (s.drop a0)).2.1 (d_ ok (s.drop a0)).2.2):=by
 have ar:=G.le.refl g;unfold yd pk at*;refine enter func221 rfl ntmps221 rfl ?_;cases ok with
 |false=>
  have lx:d_ false (s.drop a0)=(0,false,s.drop a0):=rfl;rw[lx];refine aZ rfl<|aZ rfl<|lJ [.o 0] hs rfl<|az<|aI<|bK (fun m a' w=> ∃(g':G),w=g'.w∧St g0 g' (vO b [.string (bs s),vI a0,.bool false] 239::L)∧G.le g g'∧m=0∧Fr 106 [] [(0,vP b),(3,vI 0),(4,vI a0)] a') 0 (fun a' ha=>⟨g,rfl,hs,ar,rfl,ha.kp rfl⟩) ?_;clear hs ar;rintro m a' _ ⟨g',rfl,hs,ar,rfl,dW⟩;revert a';refine ct<|az<|az ?_;apply bD hs (dn (dn (dn (dn (dn (gU [])))))) 44 [(43,52)] (by kernel_rfl) rfl
  ·exact EG [[],[0],[1],[2],[3],[4],[5,4],[6,4],[7,4],[4],[9,4],[10,4],[11,4],[12,4],[8,13,4],[4,14],[15],[16],[17,16],[18,16],[19,16],[16],[21,16],[22,16],[23,16],[20,24,16],[25,16],[16,26],[27],[28],[29,28],[30,28],[31,28],[28],[33,28],[34,28],[35,28],[32,36,28],[37,28],[28,38],[39],[40],[41,40],[40,42]] [.o 0] hs rfl
  clear hs;intro g1 hs ai;replace ar:=G.le.trans ar ai;refine b_<|aar rfl<|bc<|bg<|bg<|cA<|aq<|az<|c_ 7 [.o 0] hs rfl<|bM 80 (b':=true) (by simp) rfl<|aX rfl<|aas rfl<|an<|Wp 3 rfl<|sN 0 hs rfl fun g1 hs ai=>?_;replace ar:=G.le.trans ar ai;exact b_<|aZ rfl<|aG (aaq rfl (db.intro ar ⟨rfl,a0,Gg,rfl,hs⟩))
 |true=>
  refine aZ rfl<|aZ rfl<|lJ [.o 0] hs rfl<|az<|aI ?_
  refine bK (fun m a' w=> ∃(n a1:Nat) (g':G),fA n (s.drop a1)=fA 0 (s.drop a0)∧w=g'.w∧St g0 g' (vO b [.string (bs s),vI a1,.bool true] 239::L)∧G.le g g'∧a0≤a1∧a1≤s.length∧n≤10000009∧m=s.length-a1∧
   Fr 106 [] [(0,vP b),(3,vI n),(4,vI a0)] a') (s.length-a0) (fun a' ha=>⟨0,a0,g,rfl,rfl,hs,ar,Nat.le_refl _,Gg,by omega,rfl,ha.kp rfl⟩) ?_
  clear hs ar;rintro m a' _ ⟨n,a1,g',Uq,rfl,hs,ar,h0,h1,hn,rfl,dW⟩;revert a';by_cases bt:a1<s.length
  ·obtain⟨c,hc⟩: ∃c,s[a1]=c:=⟨_,rfl⟩;have vB:s.drop a1=c::s.drop (a1+1):=by rw[List.drop_eq_getElem_cons bt,hc]
   have e1:decide ((a1:Int)<(s.length:Int))=true:=by simp;omega
   cases e2:decide ((48:Int)≤(c.toNat:Int))with
   |false=>
    have hd:fA 0 (s.drop a0)=(n,s.drop a1):=by rw[←Uq,vB,sg];rintro⟨_,h⟩;have:=((qW c).1 h).1;simp at e2;omega
    refine ct<|az<|az ?_;apply bD hs (dn (dn (dn (dn (dn (gU [])))))) 44 [(43,52)] (by kernel_rfl) rfl
    ·exact pO [[],[0],[1],[2],[3],[4],[5,4],[6,4],[7,4],[4],[9,4],[10,4],[11,4],[12,4]] [.o 0,.o 0,.o 0] hs rfl<|fR [(8,17),(13,22),(4,13)] (fun gd hf=>aay rfl (aaL rfl (congrArg Value.bool (show _=true from by rw[cg];exact e1))))<|pO [[4,14],[15],[16],[17,16],[18,16],[19,16],[16],[21,16],[22,16],[23,16]] [.o 0,.o 0] hs rfl<|fR [(20,29),(24,33),(16,25)] (fun gd hf=>aay rfl (ay rfl (fg T.ok (s:=s) (n:=(a1:Int)) rfl rfl rfl rfl rfl (by omega) (by simpa using bt) (aav (congrArg (fun z:UInt8=>Value.int .u8 (z.toNat:Int)) hc)))))<|fR [(25,34),(16,25)] (fun gd hf=>aaw rfl (aaL rfl (congrArg Value.bool (show _=false from by exact e2))))<|HW [[16,26],[27],[28],[29,28],[30,28],[31,28],[28],[33,28],[34,28],[35,28],[32,36,28],[37,28],[28,38],[39],[40],[41,40],[40,42]] rfl
    clear hs;intro g1 hs ai;replace ar:=G.le.trans ar ai;refine b_<|aar rfl ?_;have lx:d_ true (s.drop a0)=(n,!mX (s.drop a0),s.drop a1):=by unfold d_;rw[if_pos rfl,hd]
    rw[lx,qX hd h0 h1];dsimp only;clear lx;by_cases q_:a1=a0
    ·subst q_;rw[decide_eq_true (rfl:a1=a1),Bool.true_or,Bool.true_or];refine bc<|bg<|bg<|cA<|aq<|az<|c_ 7 [.o 0] hs rfl<|bM 80 (b':=true) (by simp) rfl<|aX rfl<|aas rfl<|an<|Wp 3 rfl<|sN 0 hs rfl fun g1 hs ai=>?_;replace ar:=G.le.trans ar ai;exact b_<|aZ rfl<|aG (aaq rfl (db.intro ar ⟨rfl,a1,h1,rfl,hs⟩))
    rw[decide_eq_false q_,Bool.false_or];refine bc<|bg<|bg<|cA<|aq<|az<|c_ 7 [.o 0] hs rfl<|bM 80 (b':=false) (by simp;omega) rfl<|Wm 8 [.o 0] hs rfl ?_;by_cases yY:1<a1-a0
    ·refine bM 88 (b':=true) (by rw[wq];simp;omega) rfl ?_;have ye:a0<s.length:=by omega
     rw[decide_eq_true yY,Bool.true_and,List.getElem?_eq_getElem ye];obtain⟨c0,nS⟩: ∃c0,s[a0]=c0:=⟨_,rfl⟩;refine Wm 5 [.o 0] hs rfl<|ak rfl rfl<|fg T.ok (s:=s) (n:=(a0:Int)) rfl rfl rfl rfl rfl (by omega) (by simpa using ye)<|nE (.int .u8 (c0.toNat:Int)) (t:=94) rfl (congrArg (fun z:UInt8=>Value.int .u8 (z.toNat:Int)) nS) ?_;rw[nS];by_cases C4:c0=48
     ·subst C4;rw[show((some (48:UInt8))==some 48)=true from rfl,Bool.true_or];refine aX rfl<|aas rfl<|an<|Wp 3 rfl<|sN 0 hs rfl fun g1 hs ai=>?_;replace ar:=G.le.trans ar ai;exact b_<|aZ rfl<|aG (aaq rfl (db.intro ar ⟨rfl,a1,h1,rfl,hs⟩))
     have eO:(c0.toNat:Int)≠48:=fun h=>C4 (UInt8.toNat_inj.1 (show c0.toNat=48 by omega));rw[show(some c0==some 48)=false from by simpa using C4,Bool.false_or];refine Wp 4 rfl<|bM 98 (b':=false) (by simp;omega) rfl ?_;by_cases lZ:1000000<n
     ·rw[decide_eq_true lZ];refine aX rfl<|aJ (b:=_) ?_ rfl ?_
      ·simp;omega
      refine an<|Wp 3 rfl<|sN 0 hs rfl fun g1 hs ai=>?_;replace ar:=G.le.trans ar ai;exact b_<|aZ rfl<|aG (aaq rfl (db.intro ar ⟨rfl,a1,h1,rfl,hs⟩))
     rw[decide_eq_false lZ];refine aX rfl<|aQ (b:=_) ?_ rfl ?_
     ·simp;omega
     exact aF<|aq<|aZ rfl<|aG (aaq rfl (db.intro ar ⟨rfl,a1,h1,rfl,hs⟩))
    refine bM 88 (b':=false) (by rw[wq];simp;omega) rfl ?_;rw[decide_eq_false yY,Bool.false_and,Bool.false_or];refine aX rfl ?_;by_cases lZ:1000000<n
    ·rw[decide_eq_true lZ];refine aJ (b:=_) ?_ rfl ?_
     ·simp;omega
     refine an<|Wp 3 rfl<|sN 0 hs rfl fun g1 hs ai=>?_;replace ar:=G.le.trans ar ai;exact b_<|aZ rfl<|aG (aaq rfl (db.intro ar ⟨rfl,a1,h1,rfl,hs⟩))
    rw[decide_eq_false lZ];refine aQ (b:=_) ?_ rfl ?_
    ·simp;omega
    exact aF<|aq<|aZ rfl<|aG (aaq rfl (db.intro ar ⟨rfl,a1,h1,rfl,hs⟩))
   |true=>
   cases e3:decide ((c.toNat:Int)≤57)with
   |false=>
    have hd:fA 0 (s.drop a0)=(n,s.drop a1):=by rw[←Uq,vB,sg];rintro⟨_,h⟩;have:=((qW c).1 h).2;simp at e3;omega
    refine ct<|az<|az ?_;apply bD hs (dn (dn (dn (dn (dn (gU [])))))) 44 [(43,52)] (by kernel_rfl) rfl
    ·exact pO [[],[0],[1],[2],[3],[4],[5,4],[6,4],[7,4],[4],[9,4],[10,4],[11,4],[12,4]] [.o 0,.o 0,.o 0] hs rfl<|fR [(8,17),(13,22),(4,13)] (fun gd hf=>aay rfl (aaL rfl (congrArg Value.bool (show _=true from by rw[cg];exact e1))))<|pO [[4,14],[15],[16],[17,16],[18,16],[19,16],[16],[21,16],[22,16],[23,16]] [.o 0,.o 0] hs rfl<|fR [(20,29),(24,33),(16,25)] (fun gd hf=>aay rfl (ay rfl (fg T.ok (s:=s) (n:=(a1:Int)) rfl rfl rfl rfl rfl (by omega) (by simpa using bt) (aav (congrArg (fun z:UInt8=>Value.int .u8 (z.toNat:Int)) hc)))))<|fR [(25,34),(16,25)] (fun gd hf=>aaw rfl (aaL rfl (congrArg Value.bool (show _=true from by exact e2))))<|pO [[16,26],[27],[28],[29,28],[30,28],[31,28],[28],[33,28],[34,28],[35,28]] [.o 0,.o 0] hs rfl<|fR [(32,41),(36,45),(28,37)] (fun gd hf=>aay rfl (ay rfl (fg T.ok (s:=s) (n:=(a1:Int)) rfl rfl rfl rfl rfl (by omega) (by simpa using bt) (aav (congrArg (fun z:UInt8=>Value.int .u8 (z.toNat:Int)) hc)))))<|fR [(37,46),(28,37)] (fun gd hf=>aaw rfl (aaL rfl (congrArg Value.bool (show _=false from by exact e3))))<|HW [[28,38],[39],[40],[41,40],[40,42]] rfl
    clear hs;intro g1 hs ai;replace ar:=G.le.trans ar ai;refine b_<|aar rfl ?_;have lx:d_ true (s.drop a0)=(n,!mX (s.drop a0),s.drop a1):=by unfold d_;rw[if_pos rfl,hd]
    rw[lx,qX hd h0 h1];dsimp only;clear lx;by_cases q_:a1=a0
    ·subst q_;rw[decide_eq_true (rfl:a1=a1),Bool.true_or,Bool.true_or];refine bc<|bg<|bg<|cA<|aq<|az<|c_ 7 [.o 0] hs rfl<|bM 80 (b':=true) (by simp) rfl<|aX rfl<|aas rfl<|an<|Wp 3 rfl<|sN 0 hs rfl fun g1 hs ai=>?_;replace ar:=G.le.trans ar ai;exact b_<|aZ rfl<|aG (aaq rfl (db.intro ar ⟨rfl,a1,h1,rfl,hs⟩))
    rw[decide_eq_false q_,Bool.false_or];refine bc<|bg<|bg<|cA<|aq<|az<|c_ 7 [.o 0] hs rfl<|bM 80 (b':=false) (by simp;omega) rfl<|Wm 8 [.o 0] hs rfl ?_;by_cases yY:1<a1-a0
    ·refine bM 88 (b':=true) (by rw[wq];simp;omega) rfl ?_;have ye:a0<s.length:=by omega
     rw[decide_eq_true yY,Bool.true_and,List.getElem?_eq_getElem ye];obtain⟨c0,nS⟩: ∃c0,s[a0]=c0:=⟨_,rfl⟩;refine Wm 5 [.o 0] hs rfl<|ak rfl rfl<|fg T.ok (s:=s) (n:=(a0:Int)) rfl rfl rfl rfl rfl (by omega) (by simpa using ye)<|nE (.int .u8 (c0.toNat:Int)) (t:=94) rfl (congrArg (fun z:UInt8=>Value.int .u8 (z.toNat:Int)) nS) ?_;rw[nS];by_cases C4:c0=48
     ·subst C4;rw[show((some (48:UInt8))==some 48)=true from rfl,Bool.true_or];refine aX rfl<|aas rfl<|an<|Wp 3 rfl<|sN 0 hs rfl fun g1 hs ai=>?_;replace ar:=G.le.trans ar ai;exact b_<|aZ rfl<|aG (aaq rfl (db.intro ar ⟨rfl,a1,h1,rfl,hs⟩))
     have eO:(c0.toNat:Int)≠48:=fun h=>C4 (UInt8.toNat_inj.1 (show c0.toNat=48 by omega));rw[show(some c0==some 48)=false from by simpa using C4,Bool.false_or];refine Wp 4 rfl<|bM 98 (b':=false) (by simp;omega) rfl ?_;by_cases lZ:1000000<n
     ·rw[decide_eq_true lZ];refine aX rfl<|aJ (b:=_) ?_ rfl ?_
      ·simp;omega
      refine an<|Wp 3 rfl<|sN 0 hs rfl fun g1 hs ai=>?_;replace ar:=G.le.trans ar ai;exact b_<|aZ rfl<|aG (aaq rfl (db.intro ar ⟨rfl,a1,h1,rfl,hs⟩))
     rw[decide_eq_false lZ];refine aX rfl<|aQ (b:=_) ?_ rfl ?_
     ·simp;omega
     exact aF<|aq<|aZ rfl<|aG (aaq rfl (db.intro ar ⟨rfl,a1,h1,rfl,hs⟩))
    refine bM 88 (b':=false) (by rw[wq];simp;omega) rfl ?_;rw[decide_eq_false yY,Bool.false_and,Bool.false_or];refine aX rfl ?_;by_cases lZ:1000000<n
    ·rw[decide_eq_true lZ];refine aJ (b:=_) ?_ rfl ?_
     ·simp;omega
     refine an<|Wp 3 rfl<|sN 0 hs rfl fun g1 hs ai=>?_;replace ar:=G.le.trans ar ai;exact b_<|aZ rfl<|aG (aaq rfl (db.intro ar ⟨rfl,a1,h1,rfl,hs⟩))
    rw[decide_eq_false lZ];refine aQ (b:=_) ?_ rfl ?_
    ·simp;omega
    exact aF<|aq<|aZ rfl<|aG (aaq rfl (db.intro ar ⟨rfl,a1,h1,rfl,hs⟩))
   |true=>
   have Ur:fy c=true:=(qW c).2 ⟨by simp at e2;omega,by simp at e3;omega⟩;have Yn:=(qW c).1 Ur;cases e4:decide ((n:Int)≤1000000)with
   |false=>
    have hd:fA 0 (s.drop a0)=(n,s.drop a1):=by rw[←Uq,vB,sg];rintro⟨h,_⟩;simp at e4;omega
    refine ct<|az<|az ?_;apply bD hs (dn (dn (dn (dn (dn (gU [])))))) 44 [(43,52)] (by kernel_rfl) rfl
    ·exact pO [[],[0],[1],[2],[3],[4],[5,4],[6,4],[7,4],[4],[9,4],[10,4],[11,4],[12,4]] [.o 0,.o 0,.o 0] hs rfl<|fR [(8,17),(13,22),(4,13)] (fun gd hf=>aay rfl (aaL rfl (congrArg Value.bool (show _=true from by rw[cg];exact e1))))<|pO [[4,14],[15],[16],[17,16],[18,16],[19,16],[16],[21,16],[22,16],[23,16]] [.o 0,.o 0] hs rfl<|fR [(20,29),(24,33),(16,25)] (fun gd hf=>aay rfl (ay rfl (fg T.ok (s:=s) (n:=(a1:Int)) rfl rfl rfl rfl rfl (by omega) (by simpa using bt) (aav (congrArg (fun z:UInt8=>Value.int .u8 (z.toNat:Int)) hc)))))<|fR [(25,34),(16,25)] (fun gd hf=>aaw rfl (aaL rfl (congrArg Value.bool (show _=true from by exact e2))))<|pO [[16,26],[27],[28],[29,28],[30,28],[31,28],[28],[33,28],[34,28],[35,28]] [.o 0,.o 0] hs rfl<|fR [(32,41),(36,45),(28,37)] (fun gd hf=>aay rfl (ay rfl (fg T.ok (s:=s) (n:=(a1:Int)) rfl rfl rfl rfl rfl (by omega) (by simpa using bt) (aav (congrArg (fun z:UInt8=>Value.int .u8 (z.toNat:Int)) hc)))))<|fR [(37,46),(28,37)] (fun gd hf=>aaw rfl (aaL rfl (congrArg Value.bool (show _=true from by exact e3))))<|EF [[28,38],[39],[40]] rfl<|fR [(41,50),(40,49)] (fun gd hf=>aaw rfl (aaL rfl (congrArg Value.bool (show _=false from by exact e4))))<|HW [[40,42]] rfl
    clear hs;intro g1 hs ai;replace ar:=G.le.trans ar ai;refine b_<|aar rfl ?_;have lx:d_ true (s.drop a0)=(n,!mX (s.drop a0),s.drop a1):=by unfold d_;rw[if_pos rfl,hd]
    rw[lx,qX hd h0 h1];dsimp only;clear lx;by_cases q_:a1=a0
    ·subst q_;rw[decide_eq_true (rfl:a1=a1),Bool.true_or,Bool.true_or];refine bc<|bg<|bg<|cA<|aq<|az<|c_ 7 [.o 0] hs rfl<|bM 80 (b':=true) (by simp) rfl<|aX rfl<|aas rfl<|an<|Wp 3 rfl<|sN 0 hs rfl fun g1 hs ai=>?_;replace ar:=G.le.trans ar ai;exact b_<|aZ rfl<|aG (aaq rfl (db.intro ar ⟨rfl,a1,h1,rfl,hs⟩))
    rw[decide_eq_false q_,Bool.false_or];refine bc<|bg<|bg<|cA<|aq<|az<|c_ 7 [.o 0] hs rfl<|bM 80 (b':=false) (by simp;omega) rfl<|Wm 8 [.o 0] hs rfl ?_;by_cases yY:1<a1-a0
    ·refine bM 88 (b':=true) (by rw[wq];simp;omega) rfl ?_;have ye:a0<s.length:=by omega
     rw[decide_eq_true yY,Bool.true_and,List.getElem?_eq_getElem ye];obtain⟨c0,nS⟩: ∃c0,s[a0]=c0:=⟨_,rfl⟩;refine Wm 5 [.o 0] hs rfl<|ak rfl rfl<|fg T.ok (s:=s) (n:=(a0:Int)) rfl rfl rfl rfl rfl (by omega) (by simpa using ye)<|nE (.int .u8 (c0.toNat:Int)) (t:=94) rfl (congrArg (fun z:UInt8=>Value.int .u8 (z.toNat:Int)) nS) ?_;rw[nS];by_cases C4:c0=48
     ·subst C4;rw[show((some (48:UInt8))==some 48)=true from rfl,Bool.true_or];refine aX rfl<|aas rfl<|an<|Wp 3 rfl<|sN 0 hs rfl fun g1 hs ai=>?_;replace ar:=G.le.trans ar ai;exact b_<|aZ rfl<|aG (aaq rfl (db.intro ar ⟨rfl,a1,h1,rfl,hs⟩))
     have eO:(c0.toNat:Int)≠48:=fun h=>C4 (UInt8.toNat_inj.1 (show c0.toNat=48 by omega));rw[show(some c0==some 48)=false from by simpa using C4,Bool.false_or];refine Wp 4 rfl<|bM 98 (b':=false) (by simp;omega) rfl ?_;by_cases lZ:1000000<n
     ·rw[decide_eq_true lZ];refine aX rfl<|aJ (b:=_) ?_ rfl ?_
      ·simp;omega
      refine an<|Wp 3 rfl<|sN 0 hs rfl fun g1 hs ai=>?_;replace ar:=G.le.trans ar ai;exact b_<|aZ rfl<|aG (aaq rfl (db.intro ar ⟨rfl,a1,h1,rfl,hs⟩))
     rw[decide_eq_false lZ];refine aX rfl<|aQ (b:=_) ?_ rfl ?_
     ·simp;omega
     exact aF<|aq<|aZ rfl<|aG (aaq rfl (db.intro ar ⟨rfl,a1,h1,rfl,hs⟩))
    refine bM 88 (b':=false) (by rw[wq];simp;omega) rfl ?_;rw[decide_eq_false yY,Bool.false_and,Bool.false_or];refine aX rfl ?_;by_cases lZ:1000000<n
    ·rw[decide_eq_true lZ];refine aJ (b:=_) ?_ rfl ?_
     ·simp;omega
     refine an<|Wp 3 rfl<|sN 0 hs rfl fun g1 hs ai=>?_;replace ar:=G.le.trans ar ai;exact b_<|aZ rfl<|aG (aaq rfl (db.intro ar ⟨rfl,a1,h1,rfl,hs⟩))
    rw[decide_eq_false lZ];refine aQ (b:=_) ?_ rfl ?_
    ·simp;omega
    exact aF<|aq<|aZ rfl<|aG (aaq rfl (db.intro ar ⟨rfl,a1,h1,rfl,hs⟩))
   |true=>
    have Se:n≤1000000:=by simp at e4;omega
    have lh:fA (10*n+(c.toNat-48)) (s.drop (a1+1))=fA 0 (s.drop a0):=by rw[←Uq,vB,JQ ⟨Se,Ur⟩]
    refine ct<|az<|az ?_;apply bD hs (dn (dn (dn (dn (dn (gU [])))))) 44 [(43,52)] (by kernel_rfl) rfl
    ·exact pO [[],[0],[1],[2],[3],[4],[5,4],[6,4],[7,4],[4],[9,4],[10,4],[11,4],[12,4]] [.o 0,.o 0,.o 0] hs rfl<|fR [(8,17),(13,22),(4,13)] (fun gd hf=>aay rfl (aaL rfl (congrArg Value.bool (show _=true from by rw[cg];exact e1))))<|pO [[4,14],[15],[16],[17,16],[18,16],[19,16],[16],[21,16],[22,16],[23,16]] [.o 0,.o 0] hs rfl<|fR [(20,29),(24,33),(16,25)] (fun gd hf=>aay rfl (ay rfl (fg T.ok (s:=s) (n:=(a1:Int)) rfl rfl rfl rfl rfl (by omega) (by simpa using bt) (aav (congrArg (fun z:UInt8=>Value.int .u8 (z.toNat:Int)) hc)))))<|fR [(25,34),(16,25)] (fun gd hf=>aaw rfl (aaL rfl (congrArg Value.bool (show _=true from by exact e2))))<|pO [[16,26],[27],[28],[29,28],[30,28],[31,28],[28],[33,28],[34,28],[35,28]] [.o 0,.o 0] hs rfl<|fR [(32,41),(36,45),(28,37)] (fun gd hf=>aay rfl (ay rfl (fg T.ok (s:=s) (n:=(a1:Int)) rfl rfl rfl rfl rfl (by omega) (by simpa using bt) (aav (congrArg (fun z:UInt8=>Value.int .u8 (z.toNat:Int)) hc)))))<|fR [(37,46),(28,37)] (fun gd hf=>aaw rfl (aaL rfl (congrArg Value.bool (show _=true from by exact e3))))<|EF [[28,38],[39],[40]] rfl<|fR [(41,50),(40,49)] (fun gd hf=>aaw rfl (aaL rfl (congrArg Value.bool (show _=true from by exact e4))))<|HW [[40,42]] rfl
    clear hs;intro g1 hs ai;replace ar:=G.le.trans ar ai;refine b_<|aas rfl<|aF<|aq<|aI<|az ?_;apply bD hs (dn (gU (eF []))) 14 [(13,66)] (by kernel_rfl) rfl
    ·exact EF [[]] rfl<|fR [(0,53)] (fun gd hf=>aax rfl (aaL rfl (congrArg (Value.int .i64) (show _=((10*n:Nat):Int)from by rw[wq];omega))))<|pO [[],[2],[3],[4],[],[6],[7],[8]] [.o 0,.o 0] hs rfl<|fR [(5,58),(9,62)] (fun gd hf=>aaw rfl (ay rfl (fg T.ok (s:=s) (n:=(a1:Int)) rfl rfl rfl rfl rfl (by omega) (by simpa using bt) (aav (congrArg (fun z:UInt8=>Value.int .u8 (z.toNat:Int)) hc)))))<|fR [(10,63)] (fun gd hf=>aax rfl (aaL rfl (congrArg (Value.int .u8) (show _=((c.toNat-48:Nat):Int)from Ym c Yn.1))))<|fR [(11,64)] (fun gd hf=>aax rfl (ay rfl (zA _ T.ok rfl (aav (congrArg (Value.int .i64) (show _=((c.toNat-48:Nat):Int)from wq))))))<|fR [(1,54),(12,65)] (fun gd hf=>aaw rfl (aaL rfl (congrArg (Value.int .i64) (show _=((10*n+(c.toNat-48):Nat):Int)from by rw[wq];omega))))<|gG
    clear hs;intro g1 hs ai;replace ar:=G.le.trans ar ai;refine aX rfl<|an<|Wm 7 [.o 0] hs rfl<|nE (vI ((a1+1:Nat):Int)) (t:=71) rfl (congrArg (Value.int .i64) (by rw[wq];omega))<|sN 0 hs rfl fun g5 hs ai=>?_;replace ar:=G.le.trans ar ai;exact aA<|bJ<|fun a ha=>⟨s.length-(a1+1),by omega,10*n+(c.toNat-48),a1+1,g5,lh,rfl,hs,ar,by omega,by omega,by omega,rfl,ha.kp rfl⟩
  have PJ:s.drop a1=[]:=List.drop_of_length_le (by omega);have hd:fA 0 (s.drop a0)=(n,s.drop a1):=by rw[←Uq,PJ,GU]
  have e1:decide ((a1:Int)<(s.length:Int))=false:=by simp;omega
  refine ct<|az<|az ?_;apply bD hs (dn (dn (dn (dn (dn (gU [])))))) 44 [(43,52)] (by kernel_rfl) rfl
  ·exact pO [[],[0],[1],[2],[3],[4],[5,4],[6,4],[7,4],[4],[9,4],[10,4],[11,4],[12,4]] [.o 0,.o 0,.o 0] hs rfl<|fR [(8,17),(13,22),(4,13)] (fun gd hf=>aay rfl (aaL rfl (congrArg Value.bool (show _=false from by rw[cg];exact e1))))<|HW [[4,14],[15],[16],[17,16],[18,16],[19,16],[16],[21,16],[22,16],[23,16],[20,24,16],[25,16],[16,26],[27],[28],[29,28],[30,28],[31,28],[28],[33,28],[34,28],[35,28],[32,36,28],[37,28],[28,38],[39],[40],[41,40],[40,42]] rfl
  clear hs;intro g1 hs ai;replace ar:=G.le.trans ar ai;refine b_<|aar rfl ?_;have lx:d_ true (s.drop a0)=(n,!mX (s.drop a0),s.drop a1):=by unfold d_;rw[if_pos rfl,hd]
  rw[lx,qX hd h0 h1];dsimp only;clear lx;by_cases q_:a1=a0
  ·subst q_;rw[decide_eq_true (rfl:a1=a1),Bool.true_or,Bool.true_or];refine bc<|bg<|bg<|cA<|aq<|az<|c_ 7 [.o 0] hs rfl<|bM 80 (b':=true) (by simp) rfl<|aX rfl<|aas rfl<|an<|Wp 3 rfl<|sN 0 hs rfl fun g1 hs ai=>?_;replace ar:=G.le.trans ar ai;exact b_<|aZ rfl<|aG (aaq rfl (db.intro ar ⟨rfl,a1,h1,rfl,hs⟩))
  rw[decide_eq_false q_,Bool.false_or];refine bc<|bg<|bg<|cA<|aq<|az<|c_ 7 [.o 0] hs rfl<|bM 80 (b':=false) (by simp;omega) rfl<|Wm 8 [.o 0] hs rfl ?_;by_cases yY:1<a1-a0
  ·refine bM 88 (b':=true) (by rw[wq];simp;omega) rfl ?_;have ye:a0<s.length:=by omega
   rw[decide_eq_true yY,Bool.true_and,List.getElem?_eq_getElem ye];obtain⟨c0,nS⟩: ∃c0,s[a0]=c0:=⟨_,rfl⟩;refine Wm 5 [.o 0] hs rfl<|ak rfl rfl<|fg T.ok (s:=s) (n:=(a0:Int)) rfl rfl rfl rfl rfl (by omega) (by simpa using ye)<|nE (.int .u8 (c0.toNat:Int)) (t:=94) rfl (congrArg (fun z:UInt8=>Value.int .u8 (z.toNat:Int)) nS) ?_;rw[nS];by_cases C4:c0=48
   ·subst C4;rw[show((some (48:UInt8))==some 48)=true from rfl,Bool.true_or];refine aX rfl<|aas rfl<|an<|Wp 3 rfl<|sN 0 hs rfl fun g1 hs ai=>?_;replace ar:=G.le.trans ar ai;exact b_<|aZ rfl<|aG (aaq rfl (db.intro ar ⟨rfl,a1,h1,rfl,hs⟩))
   have eO:(c0.toNat:Int)≠48:=fun h=>C4 (UInt8.toNat_inj.1 (show c0.toNat=48 by omega));rw[show(some c0==some 48)=false from by simpa using C4,Bool.false_or];refine Wp 4 rfl<|bM 98 (b':=false) (by simp;omega) rfl ?_;by_cases lZ:1000000<n
   ·rw[decide_eq_true lZ];refine aX rfl<|aJ (b:=_) ?_ rfl ?_
    ·simp;omega
    refine an<|Wp 3 rfl<|sN 0 hs rfl fun g1 hs ai=>?_;replace ar:=G.le.trans ar ai;exact b_<|aZ rfl<|aG (aaq rfl (db.intro ar ⟨rfl,a1,h1,rfl,hs⟩))
   rw[decide_eq_false lZ];refine aX rfl<|aQ (b:=_) ?_ rfl ?_
   ·simp;omega
   exact aF<|aq<|aZ rfl<|aG (aaq rfl (db.intro ar ⟨rfl,a1,h1,rfl,hs⟩))
  refine bM 88 (b':=false) (by rw[wq];simp;omega) rfl ?_;rw[decide_eq_false yY,Bool.false_and,Bool.false_or];refine aX rfl ?_;by_cases lZ:1000000<n
  ·rw[decide_eq_true lZ];refine aJ (b:=_) ?_ rfl ?_
   ·simp;omega
   refine an<|Wp 3 rfl<|sN 0 hs rfl fun g1 hs ai=>?_;replace ar:=G.le.trans ar ai;exact b_<|aZ rfl<|aG (aaq rfl (db.intro ar ⟨rfl,a1,h1,rfl,hs⟩))
  rw[decide_eq_false lZ];refine aQ (b:=_) ?_ rfl ?_
  ·simp;omega
  exact aF<|aq<|aZ rfl<|aG (aaq rfl (db.intro ar ⟨rfl,a1,h1,rfl,hs⟩))
end Go.Proofs.YtbfjdfecgiegpaaGreatDoor
namespace Go.Proofs.YtbfjdfecgiegpaaGreatDoor
open Go Go.K Tryz
set_option maxRecDepth 10000
attribute [local irreducible] W WL cS bh bY bB bA bC cL cD
set_option maxHeartbeats 16000000
theorem qq{f:Nat}{l:List Nat}{ok:Bool}{r:List UInt8}(h: ¬(ok=true∧r.head? =some 44)):i_ f l ok r=(l,ok,r):=by
 cases f with
 |zero=>rfl
 |succ k=>rw[i_,if_neg h]
theorem GV{f:Nat}{l:List Nat}{t:List UInt8}(hf:t.length<f): ∃k,f=k+1∧i_ f l true (44::t)=i_ k (l++[(d_ true t).1]) (d_ true t).2.1 (d_ true t).2.2:=by
 cases f with
 |zero=>omega
 |succ k=>exact⟨k,rfl,by rw[i_,if_pos ⟨rfl,rfl⟩];rfl⟩
theorem yf{b:Nat}{s:List UInt8}{a0:Nat}{ok:Bool}{g0 g:G}{L:List df}(Gg:a0≤s.length)(dS:s.length≤1000000)(hs:St g0 g (pk b s a0 ok::L)):
  CallsIn Wd 0 prog 224 #[vP b] g.w (db g fun g' r=>Rs g' r (ints (nJ ok (s.drop a0)).1)∧yd b s L g0 g' (nJ ok (s.drop a0)).2.1 (nJ ok (s.drop a0)).2.2):=by
 have ar:=G.le.refl g;refine enter func224 rfl ntmps224 rfl<|aZ rfl<|cG 1 rfl<|Dj rfl (fX Gg dS hs) ?_;clear hs;rintro g1 _ ai ⟨rfl,a1,h1,vB,hs⟩;replace ar:=G.le.trans ar ai;have hR:i_ (s.drop a0).length [(d_ ok (s.drop a0)).1] (d_ ok (s.drop a0)).2.1 (d_ ok (s.drop a0)).2.2=nJ ok (s.drop a0):=rfl;have hlen:=tC ok (s.drop a0)
 have Us:a0≤a1:=by rw[←vB,List.length_drop,List.length_drop]at hlen;omega
 rw[←vB]at hR hlen;generalize(d_ ok (s.drop a0)).1=n0 at*;generalize(d_ ok (s.drop a0)).2.1=uP at*;generalize nJ ok (s.drop a0)=R0 at*;clear vB;refine BP [(0,vI (n0:Nat))] [vI (n0:Nat)] hs rfl rfl fun bl gl hs ai=>?_;replace ar:=G.le.trans ar ai;replace hs:=hs.front (i:=1) rfl;unfold pk at hs;have KT:(s.drop a1).length≤(s.drop a0).length:=hlen;generalize(s.drop a0).length=fu at*;clear hlen;refine aX rfl<|az<|aI ?_
 refine bK (fun m a' w=> ∃(f:Nat) (ns:List Nat) (C6:Bool) (a1:Nat) (ra:Option Addr) (rc:Nat) (g':G),i_ f ns C6 (s.drop a1)=R0∧(s.drop a1).length≤f∧w=g'.w∧St g0 g' (vO b [.string (bs s),vI a1,.bool C6] 239:: .row 3 1 (.slice ra ns.length rc) ns.length ((ints ns).map (Value.int .i64))::L)∧G.le g g'∧a1≤s.length∧m=s.length-a1∧ns.length≤a1+1∧
   Fr 48 [] [(0,vP b),(3,.slice ra ns.length rc)] a') (s.length-a1) (fun a' ha=>⟨fu,[n0],uP,a1,_,_,gl,hR,KT,rfl,hs,ar,h1,rfl,by simp,ha.kp rfl⟩) ?_
 clear hs ar hR KT h1 Us;rintro m a' _ ⟨f,ns,C6,a1,ra,rc,g',hR,KT,rfl,hs,ar,h1,rfl,EA,dW⟩;revert a';cases C6 with
 |false=>
  refine ct<|az<|az ?_;apply bD hs (dn (dn (dn (gU [])))) 28 [(27,34)] (by kernel_rfl) rfl
  ·exact EG [[],[0],[1],[2],[3],[4],[5,4],[6,4],[7,4],[4],[9,4],[10,4],[11,4],[12,4],[8,13,4],[4,14],[15],[16],[17,16],[18,16],[19,16],[16],[21,16],[22,16],[23,16],[20,24,16],[25,16],[16,26]] [.o 0] hs rfl
  clear hs;intro g1 hs ai;replace ar:=G.le.trans ar ai;rw[qq (by rintro⟨h,_⟩;cases h)]at hR;refine b_<|aar rfl ?_;obtain⟨gy,Mh,Hd,PK,oZ⟩:=hs.cP (α:=Int) (xs:=ints ns) (i:=1) rfl (cY.ints _ _);have ai:=PK;rw[←Mh];replace hs:=Hd;clear Hd;replace ar:=G.le.trans ar ai;rw[←hR];refine bc<|bg<|bg<|cA<|aq<|aZ rfl<|aG (aaq rfl (db.intro ar ⟨?_,a1,h1,rfl,hs⟩));have e:(ints ns).length=ns.length:=qs ns;rw[←e];rw[←e]at oZ;exact oZ
 |true=>
  by_cases bt:a1<s.length
  ·obtain⟨c,hc⟩: ∃c,s[a1]=c:=⟨_,rfl⟩;have vB:s.drop a1=c::s.drop (a1+1):=by rw[List.drop_eq_getElem_cons bt,hc]
   have e1:decide ((a1:Int)<(s.length:Int))=true:=by simp;omega
   cases e2:((c.toNat:Int)==44)with
   |false=>
    refine ct<|az<|az ?_;apply bD hs (dn (dn (dn (gU [])))) 28 [(27,34)] (by kernel_rfl) rfl
    ·exact pO [[],[0],[1],[2],[3],[4],[5,4],[6,4],[7,4],[4],[9,4],[10,4],[11,4],[12,4]] [.o 0,.o 0,.o 0] hs rfl<|fR [(8,15),(13,20),(4,11)] (fun gd hf=>aay rfl (aaL rfl (congrArg Value.bool (show _=true from by rw[cg];exact e1))))<|pO [[4,14],[15],[16],[17,16],[18,16],[19,16],[16],[21,16],[22,16],[23,16]] [.o 0,.o 0] hs rfl<|fR [(20,27),(24,31),(16,23)] (fun gd hf=>aay rfl (ay rfl (fg T.ok (s:=s) (n:=(a1:Int)) rfl rfl rfl rfl rfl (by omega) (by simpa using bt) (aav (congrArg (fun z:UInt8=>Value.int .u8 (z.toNat:Int)) hc)))))<|fR [(25,32),(16,23)] (fun gd hf=>aaw rfl (aaL rfl (congrArg Value.bool (show _=false from by exact e2))))<|HW [[16,26]] rfl
    clear hs;intro g1 hs ai;replace ar:=G.le.trans ar ai;rw[qq (by rintro⟨_,h⟩;rw[vB]at h;have:=Option.some.inj h;subst this;cases e2)]at hR;refine b_<|aar rfl ?_;obtain⟨gy,Mh,Hd,PK,oZ⟩:=hs.cP (α:=Int) (xs:=ints ns) (i:=1) rfl (cY.ints _ _);have ai:=PK;rw[←Mh];replace hs:=Hd;clear Hd;replace ar:=G.le.trans ar ai;rw[←hR];refine bc<|bg<|bg<|cA<|aq<|aZ rfl<|aG (aaq rfl (db.intro ar ⟨?_,a1,h1,rfl,hs⟩));have e:(ints ns).length=ns.length:=qs ns;rw[←e];rw[←e]at oZ;exact oZ
   |true=>
    have Yo:c=44:=UInt8.toNat_inj.1 (show c.toNat=44 by have:=eq_of_beq e2;omega);refine ct<|az<|az ?_;apply bD hs (dn (dn (dn (gU [])))) 28 [(27,34)] (by kernel_rfl) rfl
    ·exact pO [[],[0],[1],[2],[3],[4],[5,4],[6,4],[7,4],[4],[9,4],[10,4],[11,4],[12,4]] [.o 0,.o 0,.o 0] hs rfl<|fR [(8,15),(13,20),(4,11)] (fun gd hf=>aay rfl (aaL rfl (congrArg Value.bool (show _=true from by rw[cg];exact e1))))<|pO [[4,14],[15],[16],[17,16],[18,16],[19,16],[16],[21,16],[22,16],[23,16]] [.o 0,.o 0] hs rfl<|fR [(20,27),(24,31),(16,23)] (fun gd hf=>aay rfl (ay rfl (fg T.ok (s:=s) (n:=(a1:Int)) rfl rfl rfl rfl rfl (by omega) (by simpa using bt) (aav (congrArg (fun z:UInt8=>Value.int .u8 (z.toNat:Int)) hc)))))<|fR [(25,32),(16,23)] (fun gd hf=>aaw rfl (aaL rfl (congrArg Value.bool (show _=true from by exact e2))))<|HW [[16,26]] rfl
    clear hs;intro g1 hs ai;replace ar:=G.le.trans ar ai;subst Yo;rw[vB]at hR KT;obtain⟨k,rfl,lh⟩:=GV (f:=f) (l:=ns) (t:=s.drop (a1+1)) (by simp only[List.length_cons]at KT;omega);rw[lh]at hR;clear lh vB hc e2;have aao:(s.drop (a1+1)).length≤k:=by simp only[List.length_cons]at KT;omega
    refine b_<|aas rfl<|aF<|aq<|aI<|c_ 7 [.o 0] hs rfl<|nE (vI ((a1+1:Nat):Int)) (t:=39) rfl (congrArg (Value.int .i64) (by rw[wq];omega))<|sN 0 hs rfl fun g5 hs ai=>?_;replace ar:=G.le.trans ar ai;replace hs:St g0 g5 (pk b s (a1+1) true:: .row 3 1 (.slice ra ns.length rc) ns.length ((ints ns).map (Value.int .i64))::L):=hs;refine b_<|an<|Wp 2 rfl<|Dj rfl (fX (by omega) dS hs) ?_;clear hs;rintro g6 _ ai ⟨rfl,a2,h2,vB,hs⟩;replace ar:=G.le.trans ar ai;have hlen:=tC true (s.drop (a1+1));rw[←vB]at hR hlen
    have NK:a1+1≤a2:=by rw[List.length_drop,List.length_drop]at hlen;omega
    generalize(d_ true (s.drop (a1+1))).1=n2 at*;generalize(d_ true (s.drop (a1+1))).2.1=vk at*;unfold pk at hs;refine BP [(0,vI (n2:Nat))] [vI (n2:Nat)] hs rfl rfl fun bl gl hs ai=>?_;replace ar:=G.le.trans ar ai;refine ak rfl rfl<|bU T.ok 2 rfl hs rfl rfl rfl rfl rfl rfl rfl (by decide) rfl (Src.eI (hs.own 0 _ rfl).1).2 (by simp[Value.oneCell']) (by show(ns.length+1)*8≤_;omega) (by unfold maxLen;show ns.length+1≤_;omega) fun a9 c9 g9 hs ai=>?_;replace ar:=G.le.trans ar ai;have e5:(ints ns).map (Value.int .i64)++[Value.int .i64 (n2:Nat)]=(ints (ns++[n2])).map (Value.int .i64):=by simp[ints]
    replace hs:St g0 g9 (vO b [.string (bs s),vI a2,.bool vk] 239:: .row 3 1 (.slice a9 (ns++[n2]).length c9) (ns++[n2]).length ((ints (ns++[n2])).map (Value.int .i64))::L):=by rw[←e5,List.length_append];exact hs.drop 0
    exact Wp 1 rfl<|aA<|bJ<|fun a ha=>⟨s.length-a2,by omega,k,ns++[n2],vk,a2,a9,c9,g9,hR,by omega,rfl,hs,ar,h2,rfl,by rw[List.length_append,List.length_singleton];omega,ha.keep ⟨rfl,kV rfl (by rw[List.length_append];rfl),trivial⟩⟩
  have PJ:s.drop a1=[]:=List.drop_of_length_le (by omega);have e1:decide ((a1:Int)<(s.length:Int))=false:=by simp;omega
  refine ct<|az<|az ?_;apply bD hs (dn (dn (dn (gU [])))) 28 [(27,34)] (by kernel_rfl) rfl
  ·exact pO [[],[0],[1],[2],[3],[4],[5,4],[6,4],[7,4],[4],[9,4],[10,4],[11,4],[12,4]] [.o 0,.o 0,.o 0] hs rfl<|fR [(8,15),(13,20),(4,11)] (fun gd hf=>aay rfl (aaL rfl (congrArg Value.bool (show _=false from by rw[cg];exact e1))))<|HW [[4,14],[15],[16],[17,16],[18,16],[19,16],[16],[21,16],[22,16],[23,16],[20,24,16],[25,16],[16,26]] rfl
  clear hs;intro g1 hs ai;replace ar:=G.le.trans ar ai;rw[qq (by rintro⟨_,h⟩;rw[PJ]at h;cases h)]at hR;refine b_<|aar rfl ?_;obtain⟨gy,Mh,Hd,PK,oZ⟩:=hs.cP (α:=Int) (xs:=ints ns) (i:=1) rfl (cY.ints _ _);have ai:=PK;rw[←Mh];replace hs:=Hd;clear Hd;replace ar:=G.le.trans ar ai;rw[←hR];refine bc<|bg<|bg<|cA<|aq<|aZ rfl<|aG (aaq rfl (db.intro ar ⟨?_,a1,h1,rfl,hs⟩));have e:(ints ns).length=ns.length:=qs ns;rw[←e];rw[←e]at oZ;exact oZ
theorem Bh{s r:List UInt8}{a:Nat}{ok:Bool}(h:s.drop a=r)(ha:a≤s.length):yT ok r=(ok&&decide ((a:Int)=(s.length:Int))):=by
 subst h;unfold yT;congr 1;by_cases hh:a=s.length
 ·subst hh;simp
 have h2:s.drop a≠[]:=by intro h;have:=congrArg List.length h;rw[List.length_drop]at this;simp at this;omega
 cases hd:s.drop a with
 |nil=>exact absurd hd h2
 |cons x y=>simp;omega
end Go.Proofs.YtbfjdfecgiegpaaGreatDoor

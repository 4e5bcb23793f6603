/- Parts of the proof, from: The reference's Digits, list, StepLine, WindowLine, Print. -/
import Derived.Test.YtkpojaffabjibaaGreatDoorYk
namespace Go.Proofs.YtkpojaffabjibaaGreatDoor
open Go Go.K Tryz
attribute [local irreducible] W WL cQ aP bG aR aQ aS cK ct
set_option maxRecDepth 10000
set_option maxHeartbeats 16000000
theorem w_(s:Step): ∀(l:List Step) (j:Nat),iJ j (l++[s])=iJ j l++(fJ (j+l.length) s++[10])
 |[],j=>by simp[iJ]
 |x::l,j=>by rw[aa0];simp only[iJ];rw[w_ s l (j+1),aaw,show j+1+l.length=j+(l.length+1)from by omega];simp
theorem zP(w:cz): ∀l:List cz,mV (l++[w])=mV l++(eG w++[10])
 |[]=>by simp[mV]
 |x::l=>by rw[aa0];simp only[mV];rw[zP w l];simp
def nF(f:aU):Value:=if valid f=true then .tuple #[.string (bs (yX f)),vI 0]else .tuple #[.string (bs []),vI 40]
theorem CQ{f:aU}(h:valid f=true):nF f= .tuple #[.string (bs (yX f)),vI 0]:=by unfold nF;rw[if_pos h]
theorem Eu{f:aU}(h:valid f=false):nF f= .tuple #[.string (bs []),vI 40]:=by unfold nF;rw[if_neg (by rw[h];decide)]
theorem Ht(xs:List UInt8):(xs.map fun b:UInt8=>(b.toNat:Int)).map (fun m=>UInt8.ofNat m.toNat)=xs:=by
 rw[abw];conv=>rhs;rw[←List.map_id xs]
 exact acq fun b _=>by simp
theorem Zg(k:Nat)(h:k<10):IntKind.u8.wrap (48+(k:Int))=((48+k:Nat):Int):=by
 have:k=0∨k=1∨k=2∨k=3∨k=4∨k=5∨k=6∨k=7∨k=8∨k=9:=by omega
 rcases this with rfl|rfl|rfl|rfl|rfl|rfl|rfl|rfl|rfl|rfl<;>rfl
def Ev(n0 m:Nat)(s:List UInt8):Prop:=(m=0∧s≠[]∧dec n0=s)∨((0<m∨s=[])∧dec n0=dec m++s)
theorem Ev.next{n0 m:Nat}{s:List UInt8}(h:Ev n0 m s)(hc:s=[]∨0<m):Ev n0 (m/10) (UInt8.ofNat (48+m % 10)::s):=by
 have h2:dec n0=dec m++s:=by
  rcases h with⟨h1,h2,_⟩|⟨_,h3⟩
  ·rcases hc with h|h
   ·exact absurd h h2
   omega
  exact h3
 by_cases hm:m<10
 ·refine .inl ⟨by omega,by simp,?_⟩;rw[h2,iU hm,show m % 10=m by omega];rfl
 refine .inr ⟨.inl (by omega),?_⟩;rw[h2,pP hm];simp
theorem Ev.done{n0 m:Nat}{s:List UInt8}(h:Ev n0 m s)(hs:s≠[])(hm: ¬0<m):dec n0=s:=by
 rcases h with⟨_,_,h⟩|⟨h1,h2⟩
 ·exact h
 rcases h1 with h|h
 ·omega
 exact absurd h hs
theorem Ev.len{n0 m:Nat}{s:List UInt8}(h:Ev n0 m s):s.length≤(dec n0).length:=by
 rcases h with⟨_,_,h⟩|⟨_,h⟩
 ·rw[h];exact aaz _
 rw[h,aal];omega
theorem gQ(n:Int)(g:G)(hn:lB n):cN prog 49 #[vI n] g fun _ r=>r= .string (bs (cq n)):=by
 obtain⟨n0,rfl⟩: ∃m:Nat,n=m:=⟨n.toNat,by have:=hn.1;omega⟩;have hl7:=dQ hn;have hb:=hn.2;have Xu:cq (n0:Int)=dec n0:=rfl;rw[Xu]at hl7⊢;have hs:=St.start g;refine enter func49 rfl ntmps49 rfl<|aD rfl<|aD rfl<|ak<|aw ?_;refine aZ (fun mm a' w=> ∃(m0:Nat) (s:List UInt8) (g':G),Ev n0 m0 s∧w=g'.w∧St g g' []∧m0≤1000000∧mm=m0+(if s=[]then 1 else 0)∧
  Fr 21 [] [(0,vI m0),(3,.string (bs s))] a') (n0+1) (fun a' ha=>⟨n0,[],g,.inr ⟨.inr rfl,by simp⟩,rfl,hs,by omega,rfl,ha.kp rfl⟩) ?_
 clear hs;rintro mm a' _ ⟨m0,s,g',hD,rfl,hs,hm,rfl,dT⟩;have ee:=hD.len;revert a';by_cases Vg:s=[]
 ·subst Vg;refine bT<|ak<|ck 3 rfl<|bd 6 (b':=true) (by simp[cH]) rfl<|aF rfl<|aG (b:=_) ?_ rfl ?_
  ·simp
  have lH:=hD.next (by exact .inl rfl);have Xv:(UInt8.ofNat (48+m0 % 10)).toNat=48+m0 % 10:=wm (by omega);generalize UInt8.ofNat (48+m0 % 10)=d at*;refine ar<|ai<|aw<|ck 4 rfl ?_
  refine jK (.int .u8 (d.toNat:Int)) (t:=13) rfl (congrArg (Value.int .u8) (by show IntKind.u8.wrap (IntKind.i64.wrap (48+((m0 % 10:Nat):Int)))=_;rw[Xv,wq];exact Zg (m0 % 10) (by omega))) ?_;refine iX [(0,.int .u8 (d.toNat:Int))] [.int .u8 (d.toNat:Int)] hs rfl rfl fun bl gl hs ag=>?_;obtain⟨gz,gX,dk,iw,aA⟩:=hs.cD (α:=UInt8) (xs:=[d]) (i:=0) rfl (cR.bytes _ [d]);rw[←gX];replace hs:=dk;clear dk;replace hs:St g gz []:=hs;obtain⟨_,news,L4,iO⟩:=Src.jh aA;obtain rfl:=cR.vZ L4;refine aN rfl rfl<|pI T.ok (ns:=[(d.toNat:Int)]) rfl rfl rfl rfl rfl rfl rfl rfl iO ?_;rw[show([(d.toNat:Int)].map fun m=>UInt8.ofNat m.toNat)=[d]from Ht [d]];clear iO L4 aA;exact Wp 1 rfl<|aN rfl rfl<|cL (p:=[d]) (q:=[]) rfl rfl rfl (by simp only[aaF];omega)<|aF rfl<|ah<|Wp 3 rfl<|an<|aX<|fun a ha=>⟨m0/10+0,by simp;omega,m0/10,[d]++[],gz,lH,rfl,hs,by omega,by simp,ha.keep ⟨kI rfl (show IntKind.i64.wrap ((m0/10:Nat):Int)=_ from wq),rfl,trivial⟩⟩
 refine bT<|ak<|ck 3 rfl<|bd 6 (b':=false) (by rw[cH];simp[Vg]) rfl ?_;by_cases Zh:0<m0
 ·refine aF rfl<|aG (b:=_) ?_ rfl ?_
  ·simp;omega
  have lH:=hD.next (by exact .inr Zh);have Xv:(UInt8.ofNat (48+m0 % 10)).toNat=48+m0 % 10:=wm (by omega);generalize UInt8.ofNat (48+m0 % 10)=d at*;refine ar<|ai<|aw<|ck 4 rfl ?_
  refine jK (.int .u8 (d.toNat:Int)) (t:=13) rfl (congrArg (Value.int .u8) (by show IntKind.u8.wrap (IntKind.i64.wrap (48+((m0 % 10:Nat):Int)))=_;rw[Xv,wq];exact Zg (m0 % 10) (by omega))) ?_;refine iX [(0,.int .u8 (d.toNat:Int))] [.int .u8 (d.toNat:Int)] hs rfl rfl fun bl gl hs ag=>?_;obtain⟨gz,gX,dk,iw,aA⟩:=hs.cD (α:=UInt8) (xs:=[d]) (i:=0) rfl (cR.bytes _ [d]);rw[←gX];replace hs:=dk;clear dk;replace hs:St g gz []:=hs;obtain⟨_,news,L4,iO⟩:=Src.jh aA;obtain rfl:=cR.vZ L4;refine aN rfl rfl<|pI T.ok (ns:=[(d.toNat:Int)]) rfl rfl rfl rfl rfl rfl rfl rfl iO ?_;rw[show([(d.toNat:Int)].map fun m=>UInt8.ofNat m.toNat)=[d]from Ht [d]];clear iO L4 aA;exact Wp 1 rfl<|aN rfl rfl<|cL (p:=[d]) (q:=s) rfl rfl rfl (by simp only[aaF];omega)<|aF rfl<|ah<|Wp 3 rfl<|an<|aX<|fun a ha=>⟨m0/10+0,by simp[Vg];omega,m0/10,[d]++s,gz,lH,rfl,hs,by omega,by simp,ha.keep ⟨kI rfl (show IntKind.i64.wrap ((m0/10:Nat):Int)=_ from wq),rfl,trivial⟩⟩
 refine aF rfl<|bg (b:=_) ?_ rfl ?_
 ·simp;omega
 have Nt:=hD.done Vg Zh;rw[Nt];exact aJ<|aM<|aM<|b_<|ai<|aD rfl<|au (cg rfl hs rfl)
theorem AD{l:List Int}{k:Nat}(hk:k<l.length):(l.take (k+1)).map cq=(l.take k).map cq++[cq l[k]]:=by rw[aaX hk,aa3];rfl
theorem Ov{ps:List (List UInt8)}(h:ps≠[])(hp: ∀p∈ps,p≠[]):dN 44 ps≠[]:=by
 cases ps with
 |nil=>exact absurd rfl h
 |cons x r=>
  cases r with
  |nil=>exact hp x (aaT ..)
  |cons y r=>rw[show dN 44 (x::y::r)=x++44::dN 44 (y::r)from rfl];simp
theorem Hu(v:Value)(l:List Int)(g:G)(hl:Rs g v l)(hb: ∀n∈l,lB n)(hn:l.length≤1000):cN prog 113 #[v] g fun _ r=>r= .string (bs (fI l)):=by
 obtain⟨pa,pc,rfl⟩:=hl.isSlice;have hs:=St.start g;refine enter func113 rfl ntmps113 rfl<|aD rfl<|aD rfl<|ak<|aD rfl<|aw ?_;refine aZ (fun m a' w=> ∃(k:Nat) (g':G),w=g'.w∧St g g' []∧G.le g g'∧k≤l.length∧m=l.length-k∧
  Fr 25 [] [(0,.slice pa l.length pc),(3,.string (bs (dN 44 ((l.take k).map cq)))),(4,vI k)] a') l.length (fun a' ha=>⟨0,g,rfl,hs,G.le.refl _,aar _,rfl,ha.kp rfl⟩) ?_
 clear hs;rintro m a' _ ⟨k,g',rfl,hs,aj,hk,rfl,dT⟩;have aA:=hl.mono aj;have UK:(dN 44 ((l.take k).map cq)).length≤8000:=by
  have h1:=tU (c:=44) (k:=7) (l:=(l.take k).map cq) fun x hx=>by obtain⟨n,hn,rfl⟩:=aaU.1 hx;exact dQ (hb n (abX hn))
  rw[aaS,aat]at h1;omega
 revert a';refine bT<|ak<|aD rfl ?_;by_cases aV:k<l.length
 ·refine aG (b:=decide ((k:Int)<(l.length:Int))) (by simp;omega) rfl ?_;have eI:dq l (k:Int)=some l[k]:=by simp[dq,aV]
  have GY:=hb _ (aaQ aV);have Fi:=dQ GY;have dj:=AD aV;generalize l[k]=x at*;by_cases C9:k=0
  ·subst C9;refine ar<|ai<|ak<|aw<|ak<|aD rfl<|bI rfl<|ar<|ai<|ah<|Wp 3 rfl<|fP (y:=x) aA eI rfl ?_;rintro b p ys aK rfl;refine dE 1 [.e aK 0] rfl<|jN rfl (gQ x _ GY) hs fun g1 hs ag=>?_;obtain⟨aj,aA⟩:=cA ag aj aA;exact aN rfl rfl<|cL (p:=[]) (q:=cq x) rfl rfl rfl (by simp;omega)<|Wp 1 rfl<|an<|aX<|ai<|ah<|Wp 3 rfl<|an<|fun a ha=>⟨l.length-1,by omega,1,_,rfl,hs,aj,by omega,rfl,ha.keep ⟨rfl,kV rfl (by rw[dj];rfl),rfl,trivial⟩⟩
  refine ar<|ai<|ak<|aw<|ak<|aD rfl<|aG (b:=_) ?_ rfl ?_
  ·simp;omega
  refine ah<|Wp 1 rfl<|aN rfl rfl<|cL (p:=dN 44 ((l.take k).map cq)) (q:=[44]) rfl rfl rfl (by simp only[aaF];omega)<|aF rfl<|ah<|Wp 3 rfl<|fP (y:=x) aA eI rfl ?_;rintro b p ys aK rfl;refine dE 1 [.e aK 0] rfl<|jN rfl (gQ x _ GY) hs fun g1 hs ag=>?_;replace aj:=G.le.trans aj ag;refine aN rfl rfl<|cL (p:=dN 44 ((l.take k).map cq)++[44]) (q:=cq x) rfl rfl rfl (by rw[aal,aaF];omega)<|Wp 1 rfl<|an<|aX<|ai<|ah<|Wp 3 rfl<|an ?_
  have fL:(l.take k).map cq≠[]:=by intro h;have:=congrArg List.length h;rw[aaS,aat,aay]at this;omega
  exact fun a ha=>⟨l.length-(k+1),by omega,k+1,_,rfl,hs,aj,by omega,rfl,ha.keep ⟨rfl,kV rfl (by rw[dj,By 44 _ _ fL];simp),kW rfl,trivial⟩⟩
 refine bg (b:=decide ((k:Int)<(l.length:Int))) (by simp;omega) rfl ?_;obtain rfl:k=l.length:=by omega
 rw[aa_]at*;refine aJ<|aM<|aM<|b_<|ai<|ak<|aD rfl ?_;unfold fI;by_cases E3:l=[]
 ·subst E3;refine aG (b:=_) ?_ rfl ?_
  ·simp[dN,cH]
  exact aD rfl<|au (cg rfl hs rfl)
 rw[if_neg E3];refine bg (b:=_) ?_ rfl ?_
 ·have:=Ov (ps:=l.map cq) (by simpa using E3) fun p hp=>by obtain⟨n,_,rfl⟩:=aaU.1 hp;exact pR _
  rw[cH];simp[this]
 exact ar<|ai<|aD rfl<|au (cg rfl hs rfl)
theorem AE(w0:cz)(g:G)(h:lB w0.src∧lB w0.dst∧lB w0.dv):cN prog 51 #[.agg (lP w0).toArray] g fun _ r=>r= .string (bs (eG w0)):=by
 have hs:=St.start g;have aj:=G.le.refl g;have l1:=dQ h.1;have l2:=dQ h.2.1;have l3:=dQ h.2.2;rw[oE];unfold lP;refine enter func51 rfl ntmps51 rfl<|cO<|nX hs rfl fun bx g1 hs ag=>?_;obtain⟨g2,fm,dm,ag,aK⟩:=hs.fM (i:=0) rfl;replace hs:=dm;clear dm;rw[←fm];have aq:=aK;clear aK fm ag;refine aF rfl<|ak ?_;apply aO hs (cV (gR (eA []))) 14 [(13,16)] (by kernel_rfl) rfl
 ·refine cY [[],[0]] [.e aq 0] (St.start _) rfl<|aW [(1,4)] (fun gd hf=>?_) ?_
  ·skip;refine bU rfl<|az<|ay rfl<|bu (cB 49) bJ rfl rfl rfl rfl rfl (gQ (w0.src) _ h.1) fun g' v h1 h2=>⟨g',rfl,h1,?_⟩
   exact h2
  refine aW [(2,5)] (fun gd hf=>cj rfl (ay rfl (cL (p:=jE) (q:=cq w0.src) rfl rfl rfl (by simp only[aaw,aay,jE];omega) (cC rfl))))<|aW [(3,6)] (fun gd hf=>cj rfl (ay rfl (cL (p:=jE++cq w0.src) (q:=[32]) rfl rfl rfl (by simp only[aal,aaw,aay,jE];omega) (cC rfl))))<|cY [[],[5]] [.e aq 1] (St.start _) rfl<|aW [(6,9)] (fun gd hf=>?_) ?_
  ·skip;refine bU rfl<|az<|ay rfl<|bu (cB 49) bJ rfl rfl rfl rfl rfl (gQ (w0.dst) _ h.2.1) fun g' v h1 h2=>⟨g',rfl,h1,?_⟩
   exact h2
  refine aW [(4,7),(7,10)] (fun gd hf=>bN rfl (ay rfl (cL (p:=jE++cq w0.src++[32]) (q:=cq w0.dst) rfl rfl rfl (by simp only[aal,aaw,aay,jE];omega) (cC rfl))))<|aW [(8,11)] (fun gd hf=>cj rfl (ay rfl (cL (p:=jE++cq w0.src++[32]++cq w0.dst) (q:=[32]) rfl rfl rfl (by simp only[aal,aaw,aay,jE];omega) (cC rfl))))<|cY [[],[10]] [.e aq 2] (St.start _) rfl<|aW [(11,14)] (fun gd hf=>?_) ?_
  ·skip;refine bU rfl<|az<|ay rfl<|bu (cB 49) bJ rfl rfl rfl rfl rfl (gQ (w0.dv) _ h.2.2) fun g' v h1 h2=>⟨g',rfl,h1,?_⟩
   exact h2
  exact aW [(9,12),(12,15)] (fun gd hf=>bN rfl (ay rfl (cL (p:=jE++cq w0.src++[32]++cq w0.dst++[32]) (q:=cq w0.dv) rfl rfl rfl (by simp only[aal,aaw,aay,jE];omega) (cC rfl))))<|fk
 clear hs;intro g1 hs ag;exact aF rfl<|au (cg rfl hs rfl)
theorem Ew(i:Nat)(v:Value)(s:Step)(g:G)(hv:kz g v s)(hi:i≤1000000)(hB:BC s):cN prog 50 #[vI i,v] g fun _ r=>r= .string (bs (fJ i s)):=by
 obtain⟨cs,rfl,a1,n1,c1,a2,n2,c2,rfl,aA,aE⟩:=hv;have hs:=St.start g;have aj:=G.le.refl g;have T0:lB (i:Int):=⟨by omega,by omega⟩;have l0:=dQ T0;have l1:=dQ hB.n.du;have l2:=dQ hB.n.min;have l3:=dQ hB.n.max;have l4:=sj hB.n.tR;have l5:=sj hB.n.next;have l6:=hB.cZ;have l7:=hB.next;have xJ:cq (i:Int)=dec i:=rfl;refine enter func50 rfl ntmps50 rfl<|cO<|nX hs rfl fun bx g1 hs ag=>?_;obtain⟨aA,aE⟩:=cA ag aA aE;obtain⟨g2,fm,dm,ag,aK⟩:=hs.fM (i:=0) rfl;replace hs:=dm;clear dm;rw[←fm];obtain⟨aA,aE⟩:=cA ag aA aE;have aq:=aK;clear aK fm ag;refine aF rfl<|ak ?_;apply aO hs (cV (cV (cV (gR (fe []))))) 29 [(28,5)] (by kernel_rfl) rfl
 ·refine jV [[]] rfl<|aW [(0,6)] (fun gd hf=>?_) ?_
  ·skip;refine bU rfl<|az<|ay rfl<|bu (cB 49) bJ rfl rfl rfl rfl rfl (gQ ((i:Int)) _ T0) fun g' v h1 h2=>⟨g',rfl,h1,?_⟩
   exact h2
  refine aW [(1,7)] (fun gd hf=>cj rfl (ay rfl (cL (p:=fR) (q:=cq i) rfl rfl rfl (by simp only[aaw,aay,fR];omega) (cC rfl))))<|aW [(2,8)] (fun gd hf=>cj rfl (ay rfl (cL (p:=fR++cq i) (q:=dR) rfl rfl rfl (by simp only[aal,aaw,aay,fR,dR];omega) (cC rfl))))<|cY [[],[4]] [.e aq 0] (St.start _) rfl<|aW [(5,11)] (fun gd hf=>?_) ?_
  ·skip;refine bU rfl<|az<|ay rfl<|bu (cB 49) bJ rfl rfl rfl rfl rfl (gQ (s.du) _ hB.n.du) fun g' v h1 h2=>⟨g',rfl,h1,?_⟩
   exact h2
  refine aW [(3,9),(6,12)] (fun gd hf=>bN rfl (ay rfl (cL (p:=fR++cq i++dR) (q:=cq s.du) rfl rfl rfl (by simp only[aal,aaw,aay,fR,dR];omega) (cC rfl))))<|aW [(7,13)] (fun gd hf=>cj rfl (ay rfl (cL (p:=fR++cq i++dR++cq s.du) (q:=gU) rfl rfl rfl (by simp only[aal,aaw,aay,fR,dR,gU];omega) (cC rfl))))<|cY [[],[9]] [.e aq 1] (St.start _) rfl<|aW [(10,16)] (fun gd hf=>?_) ?_
  ·have eR:=(G.a_ _).trans hf.le;refine bU rfl<|az<|ay rfl<|bu (cB 113) bJ rfl rfl rfl rfl rfl (Hu _ (s.cZ) _ (aA.mono eR) hB.n.tR (by omega)) fun g' v h1 h2=>⟨g',rfl,h1,?_⟩
   exact h2
  refine aW [(8,14),(11,17)] (fun gd hf=>bN rfl (ay rfl (cL (p:=fR++cq i++dR++cq s.du++gU) (q:=fI s.cZ) rfl rfl rfl (by simp only[aal,aaw,aay,fR,dR,gU];omega) (cC rfl))))<|aW [(12,18)] (fun gd hf=>cj rfl (ay rfl (cL (p:=fR++cq i++dR++cq s.du++gU++fI s.cZ) (q:=mG) rfl rfl rfl (by simp only[aal,aaw,aay,fR,dR,gU,mG];omega) (cC rfl))))<|cY [[],[14]] [.e aq 2] (St.start _) rfl<|aW [(15,21)] (fun gd hf=>?_) ?_
  ·skip;refine bU rfl<|az<|ay rfl<|bu (cB 49) bJ rfl rfl rfl rfl rfl (gQ (s.min) _ hB.n.min) fun g' v h1 h2=>⟨g',rfl,h1,?_⟩
   exact h2
  refine aW [(13,19),(16,22)] (fun gd hf=>bN rfl (ay rfl (cL (p:=fR++cq i++dR++cq s.du++gU++fI s.cZ++mG) (q:=cq s.min) rfl rfl rfl (by simp only[aal,aaw,aay,fR,dR,gU,mG];omega) (cC rfl))))<|aW [(17,23)] (fun gd hf=>cj rfl (ay rfl (cL (p:=fR++cq i++dR++cq s.du++gU++fI s.cZ++mG++cq s.min) (q:=[46,46]) rfl rfl rfl (by simp only[aal,aaw,aay,fR,dR,gU,mG];omega) (cC rfl))))<|cY [[],[19]] [.e aq 3] (St.start _) rfl<|aW [(20,26)] (fun gd hf=>?_) ?_
  ·skip;refine bU rfl<|az<|ay rfl<|bu (cB 49) bJ rfl rfl rfl rfl rfl (gQ (s.max) _ hB.n.max) fun g' v h1 h2=>⟨g',rfl,h1,?_⟩
   exact h2
  refine aW [(18,24),(21,27)] (fun gd hf=>bN rfl (ay rfl (cL (p:=fR++cq i++dR++cq s.du++gU++fI s.cZ++mG++cq s.min++[46,46]) (q:=cq s.max) rfl rfl rfl (by simp only[aal,aaw,aay,fR,dR,gU,mG];omega) (cC rfl))))<|aW [(22,28)] (fun gd hf=>cj rfl (ay rfl (cL (p:=fR++cq i++dR++cq s.du++gU++fI s.cZ++mG++cq s.min++[46,46]++cq s.max) (q:=vd) rfl rfl rfl (by simp only[aal,aaw,aay,fR,dR,gU,mG,vd];omega) (cC rfl))))<|cY [[],[24]] [.e aq 4] (St.start _) rfl<|aW [(25,31)] (fun gd hf=>?_) ?_
  ·have eR:=(G.a_ _).trans hf.le;refine bU rfl<|az<|ay rfl<|bu (cB 113) bJ rfl rfl rfl rfl rfl (Hu _ (s.next) _ (aE.mono eR) hB.n.next (by omega)) fun g' v h1 h2=>⟨g',rfl,h1,?_⟩
   exact h2
  exact aW [(23,29),(26,32)] (fun gd hf=>bN rfl (ay rfl (cL (p:=fR++cq i++dR++cq s.du++gU++fI s.cZ++mG++cq s.min++[46,46]++cq s.max++vd) (q:=fI s.next) rfl rfl rfl (by simp only[aal,aaw,aay,fR,dR,gU,mG,vd];omega) (cC rfl))))<|qo [[27,27]] rfl
 clear hs;intro g1 hs ag;replace aq:=aq.mono ag;have hh:fR++cq i++dR++cq s.du++gU++fI s.cZ++mG++cq s.min++[46,46]++cq s.max++vd++fI s.next=zJ i s:=by unfold zJ jR;rw[xJ];simp
 rw[hh];rw[rl];have PV:=wy hi hB;unfold Ej;generalize zJ i s=H at*;refine bE<|ak<|pW [.z aq] rfl ?_;by_cases GY:0≤s.back
 ·rw[if_pos GY];have Vh:lB s.back∧lB s.dv:=by
   rcases hB.n.back with h|h
   ·omega
   exact h
  have l8:=dQ Vh.1;have l9:=dQ Vh.2;refine aG (b:=_) ?_ rfl ?_
  ·simp[GY]
  apply aO hs (cV (eA (fe []))) 11 [(10,47)] (by kernel_rfl) rfl
  ·refine jV [[]] rfl<|aW [(0,37)] (fun gd hf=>cj rfl (ay rfl (cL (p:=H) (q:=rk) rfl rfl rfl (by simp only[aaw,aay,rk];omega) (cC rfl))))<|cY [[],[2]] [.e aq 5] (St.start _) rfl<|aW [(3,40)] (fun gd hf=>?_) ?_
   ·skip;refine bU rfl<|az<|ay rfl<|bu (cB 49) bJ rfl rfl rfl rfl rfl (gQ (s.back) _ Vh.1) fun g' v h1 h2=>⟨g',rfl,h1,?_⟩
    exact h2
   refine aW [(1,38),(4,41)] (fun gd hf=>bN rfl (ay rfl (cL (p:=H++rk) (q:=cq s.back) rfl rfl rfl (by simp only[aal,aaw,aay,rk];omega) (cC rfl))))<|aW [(5,42)] (fun gd hf=>cj rfl (ay rfl (cL (p:=H++rk++cq s.back) (q:=tV) rfl rfl rfl (by simp only[aal,aaw,aay,rk,tV];omega) (cC rfl))))<|cY [[],[7]] [.e aq 6] (St.start _) rfl<|aW [(8,45)] (fun gd hf=>?_) ?_
   ·skip;refine bU rfl<|az<|ay rfl<|bu (cB 49) bJ rfl rfl rfl rfl rfl (gQ (s.dv) _ Vh.2) fun g' v h1 h2=>⟨g',rfl,h1,?_⟩
    exact h2
   exact aW [(6,43),(9,46)] (fun gd hf=>bN rfl (ay rfl (cL (p:=H++rk++cq s.back++tV) (q:=cq s.dv) rfl rfl rfl (by simp only[aal,aaw,aay,rk,tV];omega) (cC rfl))))<|fk
  clear hs;intro g1 hs ag;refine aF rfl<|aD rfl<|au<|cg rfl hs ?_;simp
 rw[if_neg GY,aaI];refine bg (b:=_) ?_ rfl ?_
 ·simp;omega
 exact ar<|ai<|aD rfl<|au (cg rfl hs rfl)
theorem Ex{l:List Step}{k:Nat}(hk:k<l.length):iJ 0 (l.take (k+1))=iJ 0 (l.take k)++fJ k l[k]++[10]:=by rw[aaX hk,w_,aat,abo,abD (by omega)];simp
theorem Gn{l:List cz}{k:Nat}(hk:k<l.length):mV (l.take (k+1))=mV (l.take k)++eG l[k]++[10]:=by rw[aaX hk,zP];simp
theorem KV(v:Value)(f:aU)(g:G)(dx:eQ g v f):cN prog 20 #[v] g fun _ r=>r=nF f:=by
 obtain⟨a1,n1,c1,a2,n2,c2,rfl,aA,aE⟩:=id dx;obtain⟨_,_,e⟩:=aA.isSlice;obtain⟨rfl,rfl,rfl⟩:=aaO e;clear e;obtain⟨_,_,e⟩:=aE.isSlice;obtain⟨rfl,rfl,rfl⟩:=aaO e;clear e;clear dx;have hs:=St.start g;have aj:=G.le.refl g;refine enter func20 rfl ntmps20 rfl<|cO<|nX hs rfl fun bx g1 hs ag=>?_;obtain⟨aA,aE⟩:=cA ag aA aE;obtain⟨g2,fm,dm,ag,aK⟩:=hs.fM (i:=0) rfl;replace hs:=dm;clear dm;rw[←fm];obtain⟨aA,aE⟩:=cA ag aA aE;have aq:=aK;clear aK fm ag;refine aF rfl<|ak<|eO 1 [.z aq] rfl<|jN rfl (yy _ f _ ⟨_,_,_,_,_,_,rfl,aA,aE⟩) hs fun g1 hs ag=>?_;obtain⟨aq,aA,aE⟩:=eS ag aq aA aE;refine aF rfl ?_;cases hv:valid f with
 |false=>
  rw[Eu hv];exact bZ rfl<|aD rfl<|au (uv rfl rfl rfl (hs.ret rfl))
 |true=>
 rw[CQ hv];have hB:=Om hv;have VI:=hB.n40;have VH:=hB.w20;refine bI rfl ?_;have l1:=dQ hB.min;have l2:=dQ hB.max;have T1:=hB.min;have T2:=hB.max;refine ar<|ai<|ak ?_;apply aO hs (cV (eA (fe []))) 11 [(10,4)] (by kernel_rfl) rfl
 ·refine cY [[],[0]] [.e aq 0] (St.start _) rfl<|aW [(1,11)] (fun gd hf=>?_) ?_
  ·skip;refine bU rfl<|az<|ay rfl<|bu (cB 49) bJ rfl rfl rfl rfl rfl (gQ (f.bS) _ T1) fun g' v h1 h2=>⟨g',rfl,h1,?_⟩
   exact h2
  refine aW [(2,12)] (fun gd hf=>cj rfl (ay rfl (cL (p:=qh) (q:=cq f.bS) rfl rfl rfl (by simp only[aaw,aay,qh];omega) (cC rfl))))<|aW [(3,13)] (fun gd hf=>cj rfl (ay rfl (cL (p:=qh++cq f.bS) (q:=[46,46]) rfl rfl rfl (by simp only[aal,aaw,aay,qh];omega) (cC rfl))))<|cY [[],[5]] [.e aq 1] (St.start _) rfl<|aW [(6,16)] (fun gd hf=>?_) ?_
  ·skip;refine bU rfl<|az<|ay rfl<|bu (cB 49) bJ rfl rfl rfl rfl rfl (gQ (f.cd) _ T2) fun g' v h1 h2=>⟨g',rfl,h1,?_⟩
   exact h2
  exact aW [(4,14),(7,17)] (fun gd hf=>bN rfl (ay rfl (cL (p:=qh++cq f.bS++[46,46]) (q:=cq f.cd) rfl rfl rfl (by simp only[aal,aaw,aay,qh];omega) (cC rfl))))<|aW [(8,18)] (fun gd hf=>cj rfl (ay rfl (cL (p:=qh++cq f.bS++[46,46]++cq f.cd) (q:=[10]) rfl rfl rfl (by simp only[aal,aaw,aay,qh];omega) (cC rfl))))<|qo [[9,9]] rfl
 clear hs;intro g1 hs ag;obtain⟨aq,aA,aE⟩:=eS ag aq aA aE;have E7:qh++cq f.bS++[46,46]++cq f.cd++[10]=iR f.bS f.cd++[10]:=by rw[w5];unfold jR;simp
 have MB:=CN hB.min hB.max;have GB:yX f=iR f.bS f.cd++[10]++iJ 0 f.steps++mV f.windows:=by unfold yX;simp
 rw[E7];generalize iR f.bS f.cd=M0 at*;refine bE<|ak<|aD rfl<|aw ?_;have ot:=aA;have CP:=aE;have nt:=aq
 refine aZ (fun m a' w=> ∃(k:Nat) (g4:G),w=g4.w∧St g g4 []∧G.le g1 g4∧k≤f.steps.length∧m=f.steps.length-k∧
   Fr 54 [] [(1,vP bx),(4,.string (bs (M0++[10]++iJ 0 (f.steps.take k)))),(5,vI k)] a') f.steps.length (fun a' ha=>⟨0,g1,rfl,hs,G.le.refl _,aar _,rfl,ha.keep ⟨rfl,kV rfl (by simp[iJ]),rfl,trivial⟩⟩) ?_
 clear hs aj aA aE aq;rintro m a' _ ⟨k,g4,rfl,hs,fE,hk,rfl,dT⟩;have aA:=ot.mono fE;have aE:=CP.mono fE;have aq:=nt.mono fE;have ee:=zL (l:=f.steps.take k) (k:=0) (by rw[aat];omega) fun s hs=>hB.steps s (abX hs);rw[aat]at ee;have Xw:(iJ 0 (f.steps.take k)).length≤8000:=by omega
 revert a';refine bT<|ak<|pW [.z aq] rfl ?_;by_cases aV:k<f.steps.length
 ·refine aG (b:=_) ?_ rfl ?_
  ·simp;omega
  have Xx:dq f.steps (k:Int)=some f.steps[k]:=by simp[dq,aV]
  have dj:=Ex aV;have Xy:=hB.steps _ (aaQ aV);have hh1:=wy (i:=k) (by omega) Xy;have hh2:=BD Xy;have hle:=rl k f.steps[k];generalize f.steps[k]=s at*;have aam:(fJ k s).length≤200:=by rw[hle,aal];omega
  refine ar<|ai<|ak<|aw<|ah<|dE 5 [.z aq] rfl<|fP (y:=s) aA Xx rfl ?_;rintro bq pq ys aK ⟨xa,xn,xc,na,nn,nc,rfl,bV,cU⟩;refine dE 1 [.e aK 0] rfl<|jN rfl (Ew k _ s _ ⟨_,rfl,_,_,_,_,_,_,rfl,bV,cU⟩ (by omega) Xy) hs fun g1 hs ag=>?_;obtain⟨fE,aq,aE⟩:=eS ag fE aq aE;exact aN rfl rfl<|cL (p:=M0++[10]++iJ 0 (f.steps.take k)) (q:=fJ k s) rfl rfl rfl (by simp only[aal,aaF];omega)<|aN rfl rfl<|cL (p:=M0++[10]++iJ 0 (f.steps.take k)++fJ k s) (q:=[10]) rfl rfl rfl (by simp only[aal,aaF];omega)<|Wp 1 rfl<|an<|aX<|ai<|ah<|Wp 3 rfl<|an<|fun a ha=>⟨f.steps.length-(k+1),by omega,k+1,_,rfl,hs,fE,by omega,rfl,ha.keep ⟨rfl,kV rfl (by rw[dj];simp),kW rfl,trivial⟩⟩
 refine bg (b:=_) ?_ rfl ?_
 ·simp;omega
 obtain rfl:k=f.steps.length:=by omega
 rw[aa_]at Xw⊢;refine aJ<|aM<|aM<|b_<|ai<|ak<|aD rfl<|aw ?_;have Rg:=aE;have py:=aq
 refine aZ (fun m a' w=> ∃(k:Nat) (g5:G),w=g5.w∧St g g5 []∧G.le g4 g5∧k≤f.windows.length∧m=f.windows.length-k∧
   Fr 54 [] [(1,vP bx),(4,.string (bs (M0++[10]++iJ 0 f.steps++mV (f.windows.take k)))),(6,vI k)] a') f.windows.length (fun a' ha=>⟨0,g4,rfl,hs,G.le.refl _,aar _,rfl,ha.keep ⟨rfl,kV rfl (by simp[mV]),rfl,trivial⟩⟩) ?_
 clear hs fE aA aE aq aV hk;rintro m a' _ ⟨k,g5,rfl,hs,fE,hk,rfl,dT⟩;have aE:=Rg.mono fE;have aq:=py.mono fE;have T3:=BE (l:=f.windows.take k) fun w hw=>hB.Re w (abX hw);rw[aat]at T3;have aan:(mV (f.windows.take k)).length≤1000:=by omega
 revert a';refine bT<|ak<|pW [.z aq] rfl ?_;by_cases aV:k<f.windows.length
 ·refine aG (b:=_) ?_ rfl ?_
  ·simp;omega
  have Xx:dq f.windows (k:Int)=some f.windows[k]:=by simp[dq,aV]
  have dj:=Gn aV;have Zi:=hB.Re _ (aaQ aV);have hh1:=rm Zi;generalize f.windows[k]=w0 at*;refine ar<|ai<|ak<|aw<|ah<|dE 4 [.z aq] rfl<|fP (y:=w0) aE Xx rfl ?_;rintro bq pq ys aK rfl;refine dE 1 [.e aK 0] rfl<|jN rfl (AE w0 _ Zi) hs fun g1 hs ag=>?_;replace fE:=G.le.trans fE ag;exact aN rfl rfl<|cL (p:=M0++[10]++iJ 0 f.steps++mV (f.windows.take k)) (q:=eG w0) rfl rfl rfl (by simp only[aal,aaF];omega)<|aN rfl rfl<|cL (p:=M0++[10]++iJ 0 f.steps++mV (f.windows.take k)++eG w0) (q:=[10]) rfl rfl rfl (by simp only[aal,aaF];omega)<|Wp 1 rfl<|an<|aX<|ai<|ah<|Wp 3 rfl<|an<|fun a ha=>⟨f.windows.length-(k+1),by omega,k+1,_,rfl,hs,fE,by omega,rfl,ha.keep ⟨rfl,kV rfl (by rw[dj];simp),kW rfl,trivial⟩⟩
 refine bg (b:=_) ?_ rfl ?_
 ·simp;omega
 obtain rfl:k=f.windows.length:=by omega
 rw[aa_];refine aJ<|aM<|aM<|b_<|ai<|aD rfl ?_;rw[←GB];exact au (uv rfl rfl rfl (hs.ret rfl))
structure UQ(f:aU):Prop where
 some_:f.steps≠[]
 cZ: ∀s∈f.steps,s.cZ≠[]
 next: ∀s∈f.steps,∀m∈s.next,0≤m∧m<(f.steps.length:Int)
 back: ∀s∈f.steps,s.back<(f.steps.length:Int)
 few:Vp f
theorem KS{l:List Int}{n m:Int}(h:m∈km l n):m∈l∨m=n:=by
 unfold km at h;split at h
 ·exact .inl h
 rcases aaJ.1 h with h|h
 ·exact .inl (abX h)
 rcases aav.1 h with h|h
 ·exact .inr h
 exact .inl (List.mem_of_mem_drop h)
theorem Ig{f:aU}(hf:UQ f)(h:List bc){m:Int}(hm:m∈kY f h):0≤m∧m<(f.steps.length:Int):=by
 have h0:0<f.steps.length:=abb.2 hf.some_;rcases ach h with rfl|⟨hi,x,rfl⟩
 ·obtain rfl:m=0:=aaL.1 hm;omega
 rw[ab9]at hm;cases dj:dq f.steps x.step with
 |none=>rw[BR dj]at hm;cases hm
 |some s=>
  have hs:s∈f.steps:=abm (np dj).2.2;rw[yi dj]at hm;split at hm
  ·rename_i hc;rw[aaA,decide_eq_true_eq]at hc;rcases KS hm with h|rfl
   ·exact hf.next s hs m h
   exact⟨hc.1,hf.back s hs⟩
  exact hf.next s hs m hm
def uN(f:aU)(c:Int)(out:List bc):Int:=(kY f out).getD (aC c (kY f out).length).toNat 0
def KR(f:aU)(waf idn time c:Int)(out:List bc):bc:=
 {DH ((dq f.steps (uN f c out)).getD lh) (((dq f.steps (uN f c out)).getD lh).cZ.headD 0) (idn+out.length) waf (uN f c out) (time+10*out.length)with til:=IntKind.i64.wrap (time+10*out.length+5)}
def tr(f:aU)(waf idn time:Int):List Int→Nat→List bc→List bc
 |[],_,out=>out
 |_::_,0,out=>out
 |c::cs,n+1,out=>if kY f out=[]then out else tr f waf idn time cs n (out++[KR f waf idn time c out])
theorem Ih(f:aU)(waf idn time:Int)(cs:List Int)(out:List bc):tr f waf idn time cs 0 out=out:=by cases cs<;>rfl
theorem KT{f:aU}(hf:UQ f)(c:Int)(out:List bc)(fL:kY f out≠[]): ∃s tool,(kY f out)[(aC c (kY f out).length).toNat]? =some (uN f c out)∧dq f.steps (uN f c out)=some s∧s.cZ[0]? =some tool∧
  ∀waf idn time,KR f waf idn time c out={DH s tool (idn+out.length) waf (uN f c out) (time+10*out.length)with til:=IntKind.i64.wrap (time+10*out.length+5)}:=by
 have hlen:0<(kY f out).length:=abb.2 fL;obtain⟨h1,h2⟩:=dM (c:=c) (n:=(kY f out).length) (by omega);have aV:(aC c (kY f out).length).toNat<(kY f out).length:=by omega
 have e:(kY f out)[(aC c (kY f out).length).toNat]? =some (uN f c out):=by unfold uN;rw[aas aV,aaP,aas aV];rfl
 obtain⟨h3,h4⟩:=Ig hf out (abm e);have uI:(uN f c out).toNat<f.steps.length:=by omega
 have dj:dq f.steps (uN f c out)=some f.steps[(uN f c out).toNat]:=(if_neg (by omega)).trans (aas uI);have ht:=hf.cZ _ (aaQ uI);refine⟨_,(f.steps[(uN f c out).toNat]).cZ.headD 0,e,dj,?_,fun waf idn time=>?_⟩
 ·generalize f.steps[(uN f c out).toNat].cZ=l at ht;cases l with
  |nil=>exact absurd rfl ht
  |cons x l=>rfl
 unfold KR;rw[dj];rfl
abbrev rF(ad:Option Addr)(c:Nat)(xs:List bc):dc:=.row 50 19 (.slice ad xs.length c) xs.length (fl xs)
theorem Di(v u:Value)(f:aU)(cs:List Int)(n:Nat)(waf idn time:Int)(g:G)(eo:eQ g v f)(aA:Rs g u cs)(hf:UQ f)(oR: ∀c∈cs,jJ c)(hn:n≤1000)(hi:0≤idn∧idn≤1000000)(ht:0≤time∧time≤1000000):
  cN prog 6 #[v,u,vI n,vI waf,vI idn,vI time] g fun g' r=>Rs g' r (tr f waf idn time cs n []):=by
 have hs:=(St.start g).eM 50 19 none;have aj:=G.le.refl g;obtain⟨a,c,rfl⟩:=aA.isSlice;obtain⟨_,_,je⟩:=aA.mL;unfold maxLen at je;have Wa:=eo;obtain⟨a1,n1,c1,a2,n2,c2,rfl,aE,bB⟩:=Wa;clear aE bB;refine enter func6 rfl ntmps6 rfl<|cO<|gF hs rfl fun b6 g2 hs ag aq=>?_;obtain⟨aj,aA,eo⟩:=eS ag aj aA eo;replace hs:St g _ [rF none 0 []]:=hs;refine aF rfl<|aD rfl<|ak<|aD rfl<|aw ?_
 refine aZ (fun m a' w=> ∃(ad:Option Addr) (c8:Nat) (xs:List bc) (g':G),w=g'.w∧St g g' [rF ad c8 xs]∧G.le g g'∧eQ g' (.agg #[vI f.bS,vI f.cd,.slice a1 n1 c1,.slice a2 n2 c2]) f∧EP g' b6 0 [vI f.bS,vI f.cd,.slice a1 n1 c1,.slice a2 n2 c2]∧Rs g' (.slice a cs.length c) cs∧xs.length≤cs.length∧xs.length≤n∧tr f waf idn time (cs.drop xs.length) (n-xs.length) xs=tr f waf idn time cs n []∧m=cs.length-xs.length∧
   Fr 67 [] [(1,.slice a cs.length c),(2,vI n),(3,vI waf),(4,vI idn),(5,vI time),(6,vP b6),(13,.slice ad xs.length c8),(14,vI (xs.length:Nat))] a') cs.length
  (fun a' ha=>⟨none,0,[],_,rfl,hs,aj,eo,aq,aA,aar _,aar _,rfl,rfl,ha.kp rfl⟩) ?_
 (repeat clear hs);(repeat clear aA);(repeat clear aj);(repeat clear aq);(repeat clear eo);rintro m a' _ ⟨ad,c8,xs,g',rfl,hs,aj,eo,aq,aA,hxc,Yo,hq,rfl,dT⟩;revert a';refine bT<|ak<|ck 5 rfl ?_;cases h1:decide ((xs.length:Int)<(cs.length:Int))with
 |false=>
  have h1:=of_decide_eq_false h1;refine aF rfl<|bI rfl ?_;rw[abr (by omega)]at hq;obtain⟨g8,AK,oI,ag,sx⟩:=hs.cD (α:=bc) (i:=0) rfl (cR.fl _ _);rw[←AK];(repeat clear hs);have hs:=oI;clear oI;exact aJ<|aM<|aM<|b_<|ai<|aD rfl<|au (cg rfl hs (by rw[←hq];exact sx))
 |true=>
  have h1:=of_decide_eq_true h1;refine aF rfl ?_;cases h2:decide ((xs.length:Int)<(n:Int))with
  |false=>
   have h2:=of_decide_eq_false h2;refine bI rfl ?_;rw[show n-xs.length=0 from by omega,Ih]at hq;obtain⟨g8,AK,oI,ag,sx⟩:=hs.cD (α:=bc) (i:=0) rfl (cR.fl _ _);rw[←AK];(repeat clear hs);have hs:=oI;clear oI;exact aJ<|aM<|aM<|b_<|ai<|aD rfl<|au (cg rfl hs (by rw[←hq];exact sx))
  |true=>
   have h2:=of_decide_eq_true h2;refine bZ rfl ?_;have aV:xs.length<cs.length:=by omega
   rw[aa7 aV,show n-xs.length=(n-(xs.length+1))+1 from by omega]at hq;have tG:=oR _ (aaQ aV);have YH:cs[xs.length]? =some cs[xs.length]:=aas aV;generalize cs[xs.length]=ch at hq tG YH;obtain⟨gf,SI,Fh,aT,yR⟩:=hs.Qo (α:=bc) (i:=0) rfl (cR.fl _ _);rw[←SI];have sT:=hs;(repeat clear hs);have hs:=St.start gf;have leA:=aj;have flA:=eo;have epA:=aq;have rsA:=aA;have ag:=Fh;obtain⟨aj,aq,aA,eo⟩:=dU ag aj aq aA eo;refine ar<|ai<|ak<|aw<|eO 2 [.z aq] rfl<|d_ rfl (vz _ _ f xs _ eo aT (by omega) hf.few) fun g1 _ aH cU=>?_;replace hs:=hs.call aH;have ag:=aH.le;obtain⟨aj,aq,aA,eo⟩:=dU ag aj aq aA eo;obtain⟨a5,c5,rfl⟩:=cU.isSlice;refine aF rfl<|ak<|aD rfl ?_;by_cases fL:kY f xs=[]
   ·refine aG (b:=((kY f xs).length:Int)==0) (by simp[fL]) rfl ?_;rw[tr,if_pos fL]at hq;refine aD rfl ?_;obtain⟨g7,Fe,Af⟩:=yR _ hs.p9;rw[←Fe];(repeat clear hs);have hs:=sT.call Af;clear sT;obtain⟨g8,AK,oI,ag,sx⟩:=hs.cD (α:=bc) (i:=0) rfl (cR.fl _ _);rw[←AK];(repeat clear hs);have hs:=oI;clear oI;exact au (cg rfl hs (by rw[←hq];exact sx))
   refine bg (b:=((kY f xs).length:Int)==0) (by simp[fL]) rfl ?_;rw[tr,if_neg fL]at hq;obtain⟨s,tool,h3,dj,JD,hP⟩:=KT hf ch xs fL;have hlen:0<(kY f xs).length:=abb.2 fL;obtain⟨h4,h5⟩:=dM (c:=ch) (n:=(kY f xs).length) (by omega);have YI:=hP waf idn time;generalize KR f waf idn time ch xs=P0 at hq YI;generalize uN f ch xs=st at*;generalize hto:kY f xs=tos at*;obtain⟨b0,p0,ys,rfl,xG,hx⟩:=aA.at (i:=xs.length) YH;obtain rfl:ys=[vI ch]:=hx;obtain⟨b5,p5,ys,rfl,Ie,hx⟩:=cU.at h3;obtain rfl:ys=[vI st]:=hx;refine ar<|ai<|ak ?_;apply dP (gR (.e (vI (idn+(xs.length:Nat)))::cV (gR (eA (.e (vI (10*(xs.length:Nat))):: .e (vI (time+10*(xs.length:Nat)))::fe (.f (Ia (G.dr _).w.heap.size (bK fS) 50)::[])))))) 23 [(21,57),(22,16)] (by kernel_rfl)
   ·exact cY [[],[],[],[2]] [.z aq] hs rfl<|aW [(1,37),(3,39)] (fun gd hf=>bN rfl (bj rfl (congrArg (Value.int .i64) (by rw[wq]))))<|cY [[],[],[],[]] [] hs rfl<|aW [(7,43),(8,44)] (fun gd hf=>bN rfl (ay rfl (ff T.ok rfl rfl rfl (by omega) (by omega) rfl rfl rfl (cC rfl))))<|cY [[9],[],[11],[10,12]] [.e xG 0,.c (cB 23) fun g' _=>NS ch (tos.length:Nat) g' tG (by omega)] hs rfl<|aW [(6,42),(13,49)] (fun gd hf=>bN rfl (ay rfl (ff T.ok rfl rfl rfl h4 (by omega) rfl rfl rfl (cC rfl))))<|cY [[14],[],[],[17]] [.e Ie 0] hs rfl<|aW [(18,54)] (fun gd hf=>cj rfl (bj rfl (congrArg (Value.int .i64) (by rw[wq]))))<|aW [(16,52),(19,55)] (fun gd hf=>bN rfl (bj rfl (congrArg (Value.int .i64) (by rw[wq]))))<|cY [[0,4,5,15,20]] [.c (cB 22) fun g' h=>Qw _ f s tool (idn+(xs.length:Nat)) waf st (time+10*(xs.length:Nat)) g' (eo.mono h) dj JD] hs rfl<|aW [] (fun gd hf=>az (ay rfl (ik T.ok rfl (St.start gd) rfl rfl fun b g' kP hle=>⟨g',rfl,kP.p9,b,rfl,aaC hf.below.size (kP.own 0 _ rfl).1,(kP.own 0 _ rfl).2⟩)))<|fk
   intro g1 aH;refine bU rfl (aI fun v6 h6=>az ?_);obtain⟨X3,rfl,Aj⟩:=h6;have pH:=hs;(repeat clear hs);have hs:=pH.dr.jl aH Aj;have ag:=(G.a_ _).trans aH.le;obtain⟨aj,aq,aA,eo⟩:=dU ag aj aq aA eo;clear pH Aj aH;refine dC 0 hs rfl fun g1 hs ag=>?_;obtain⟨aj,aq,aA,eo⟩:=dU ag aj aq aA eo;refine bE<|jd 4 [.o 0] hs rfl<|om 0 hs rfl fun g2 hs ag aK=>?_;obtain⟨aj,aq,aA,eo⟩:=dU ag aj aq aA eo;have aB:EP g2 X3 0 (bK P0):=by rw[YI];exact aK
   clear aK;refine bE<|ah<|dE 2 [.z aB] rfl ?_;clear aT cU eo aq aA xG Ie;obtain⟨g7,Fe,Af⟩:=yR _ hs.p9;rw[←Fe];(repeat clear hs);have hs:=sT.call Af;clear sT;have ag:=Af.le;have eo:=flA.mono ag;have aq:=epA.mono ag;have aA:=rsA.mono ag;replace aj:=leA.trans ag;refine iX [(0,fv P0)] (bK P0) hs rfl rfl fun bl gl hs ag=>?_;obtain⟨aj,aq,aA,eo⟩:=dU ag aj aq aA eo;refine aN rfl rfl<|ba T.ok 1 rfl hs rfl rfl rfl rfl rfl rfl rfl (by decide) rfl (Src.dZ (hs.own 0 _ rfl).1).2 (by simp[bK,Value.oneCell']) (by show(xs.length+1)*160≤_;omega) (by show xs.length+1≤maxLen;unfold maxLen;omega) fun a6 c6 g10 hs ag=>?_;obtain⟨aj,aq,aA,eo⟩:=dU ag aj aq aA eo;have uD:fl (xs++[P0])=fl xs++bK P0:=by rw[jM];exact congrArg (fl xs++ ·) (aaI _)
   have Al:(xs++[P0]).length=xs.length+1:=by simp
   replace hs:St g g10 [rF a6 c6 (xs++[P0])]:=by unfold rF;rw[uD,Al];exact hs.drop 0
   exact Wp 1 rfl<|an<|aX<|ai<|ah<|Wp 3 rfl<|an<|fun a ha=>⟨cs.length-(xs.length+1),by omega,a6,c6,xs++[P0],_,rfl,hs,aj,eo,aq,aA,by omega,by omega,by rw[Al];exact hq,by rw[Al],ha.keep ⟨rfl,rfl,rfl,rfl,rfl,rfl,kV rfl (by rw[Al]),kI rfl (by rw[wq,Al];omega),trivial⟩⟩
def Fp(f:aU):List UInt8:=if valid f=true then yX f else []
def uO(t:List UInt8):bc:={fS with kind:=5,ver:=1,prod:=1,text:=t}
def Am(i:Nat):bc:={fS with kind:=4,ver:=1,waf:=(i+1:Nat),lot:=(1+(i+1)/3:Nat),prod:=1}
def sV(k h j:Nat):bc:={fS with kind:=6,idn:=(10*k+5*h+j+1:Nat),ver:=1,til:=1000000,tool:=k,cham:=h,rcp:=(j+1:Nat),rvn:=1}
def A_(n:Nat):bc:=sV (n/10) (n/5 % 2) (n % 5)
theorem KU{k h j:Nat}(hh:h<2)(hj:j<5):A_ (10*k+5*h+j)=sV k h j:=by unfold A_;rw[show(10*k+5*h+j)/10=k from by omega,show(10*k+5*h+j)/5 % 2=h from by omega,show(10*k+5*h+j) % 5=j from by omega]
def Fo(t:List UInt8):List bc:=uO t::(List.range 3).map Am
def Fm(t:List UInt8):List bc:=Fo t++(List.range 120).map A_
theorem An(f:aU): ∃z:Int,nF f= .tuple #[.string (bs (Fp f)),vI z]:=by
 unfold nF Fp;split
 ·exact⟨_,rfl⟩
 exact⟨_,rfl⟩
abbrev oF(b:Nat):dc:=.obj b (.cells #[vI 0,vI 0,.slice none 0 0,.slice none 0 0] 30 (0,0))
theorem DI{α:Type}(p:Nat→α)(k:Nat):(List.range (k+1)).map p=(List.range k).map p++[p k]:=by rw[acs,aa3];rfl
theorem Sc(v:Value)(x:List Y6)(g:G)(aA:Rs g v x)(hx: ∀y∈x,y.fit):
  cN prog 5 #[v] g fun g' r=> ∃v1 v2,r= .tuple #[v1,v2]∧lj 50 g (Fm (Fp (mk x []))) g' v1∧eQ g' v2 (mk x []):=by
 have hs:=St.start g;have aj:=G.le.refl g;obtain⟨a,c,rfl⟩:=aA.isSlice;refine enter func5 rfl ntmps5 rfl<|ck 1 rfl<|fA hs rfl fun b3 g1 hs ag=>?_;obtain⟨aj,aA⟩:=cA ag aj aA;refine bE<|ck 1 rfl<|d_ rfl (Qx _ _ x [] _ aA (Rs.nil _) hx (fun _ h=>absurd h abi)) fun g1 _ aH eo=>?_;replace hs:=hs.call aH;have ag:=aH.le;replace aj:=G.le.trans aj ag;clear aH;generalize mk x []=f at*;obtain⟨a1,n1,c1,a2,n2,c2,rfl,aE,bB⟩:=id eo;clear aE bB aA;refine fA hs rfl fun b4 g1 hs ag=>?_;obtain⟨aj,eo⟩:=cA ag aj eo;refine om 0 hs rfl fun g2 hs ag aq=>?_;obtain⟨aj,eo⟩:=cA ag aj eo;replace hs:St g _ [oF b3]:=hs;refine bE<|eO 1 [.z aq] rfl<|d_ rfl (KV _ f _ eo) fun g1 _ aH GB=>?_;replace hs:=hs.call aH;have ag:=aH.le;obtain⟨aj,aq,eo⟩:=eS ag aj aq eo;clear aH;obtain⟨n6,e6⟩:=An f;rw[e6]at GB;subst GB;clear e6;generalize Fp f=tx at*;refine aF rfl<|ck 1 rfl<|hZ [(0,vI 5),(2,vI 1),(10,vI 1),(18,.string (bs tx))] (bK (uO tx)) [(0,1),(1,1),(2,1),(3,1),(4,1),(5,1),(6,1),(7,1),(8,1),(9,1),(10,1),(11,1),(12,1),(13,1),(14,1),(15,1),(16,1),(17,1),(18,1)] rfl<|iX [(0,fv (uO tx))] (bK (uO tx)) hs rfl rfl fun bl gl hs ag=>?_;obtain⟨aj,aq,eo⟩:=eS ag aj aq eo
 replace hs:St g gl [rF (some ⟨bl,0,none⟩) 1 [uO tx],oF b3]:=by have e:fl [uO tx]=bK (uO tx):=aaI _;unfold rF;rw[e];exact hs
 refine aF rfl<|ak<|aD rfl<|aw ?_
 refine aZ (fun m a' w=> ∃(k:Nat) (ad:Option Addr) (c8:Nat) (xs:List bc) (g':G),w=g'.w∧St g g' [rF ad c8 xs,oF b3]∧G.le g g'∧eQ g' (.agg #[vI f.bS,vI f.cd,.slice a1 n1 c1,.slice a2 n2 c2]) f∧EP g' b4 0 [vI f.bS,vI f.cd,.slice a1 n1 c1,.slice a2 n2 c2]∧k≤3∧xs.length=k+1∧xs=uO tx::(List.range k).map Am∧m=3-k∧
   Fr 59 [] [(3,vP b3),(4,vP b4),(7,.slice ad xs.length c8),(8,vI (k+1:Nat))] a') 3
  (fun a' ha=>⟨0,_,_,[uO tx],_,rfl,hs,aj,eo,aq,by omega,rfl,rfl,rfl,ha.kp rfl⟩) ?_
 (repeat clear hs);(repeat clear aj);(repeat clear aq);(repeat clear eo);rintro m a' _ ⟨k,ad,c8,xs,g',rfl,hs,aj,eo,aq,hk,nL,lG,rfl,dT⟩;revert a';refine bT<|ak<|aD rfl ?_;by_cases aV:k<3
 ·refine aG (b:=decide (((k+1:Nat):Int)≤3)) (decide_eq_true (by omega)) rfl<|ar<|ai<|ak<|aw<|ah<|Wp 5 rfl ?_
  have YJ:IntKind.i64.wrap (1+IntKind.i64.wrap (((k+1:Nat):Int).tdiv 3))=((1+(k+1)/3:Nat):Int):=by
   have:k=0∨k=1∨k=2:=by omega
   rcases this with rfl|rfl|rfl<;>rfl
  refine cT (vI ((1+(k+1)/3:Nat):Int)) (t:=31) rfl (congrArg (Value.int .i64) YJ) ?_;clear YJ;refine hZ [(0,vI 4),(2,vI 1),(7,vI (k+1:Nat)),(9,vI (1+(k+1)/3:Nat)),(10,vI 1)] (bK (Am k)) [(0,1),(1,1),(2,1),(3,1),(4,1),(5,1),(6,1),(7,1),(8,1),(9,1),(10,1),(11,1),(12,1),(13,1),(14,1),(15,1),(16,1),(17,1),(18,1)] rfl<|iX [(0,fv (Am k))] (bK (Am k)) hs rfl rfl fun bl gl hs ag=>?_;obtain⟨aj,aq,eo⟩:=eS ag aj aq eo;refine aN rfl rfl<|ba T.ok 1 rfl hs rfl rfl rfl rfl rfl rfl rfl (by decide) rfl (Src.dZ (hs.own 0 _ rfl).1).2 (by simp[bK,Value.oneCell']) (by show(xs.length+1)*160≤_;omega) (by show xs.length+1≤maxLen;unfold maxLen;omega) fun a6 c6 g10 hs ag=>?_;obtain⟨aj,aq,eo⟩:=eS ag aj aq eo;have uD:fl (xs++[Am k])=fl xs++bK (Am k):=by rw[jM];exact congrArg (fl xs++ ·) (aaI _)
  have Al:(xs++[Am k]).length=xs.length+1:=by simp
  replace hs:St g g10 [rF a6 c6 (xs++[Am k]),oF b3]:=by unfold rF;rw[uD,Al];exact hs.drop 0
  exact Wp 1 rfl<|an<|aX<|ai<|ah<|Wp 3 rfl<|an<|fun a ha=>⟨3-(k+1),by omega,k+1,a6,c6,xs++[Am k],_,rfl,hs,aj,eo,aq,by omega,by rw[Al,nL],by rw[DI,lG];rfl,rfl,ha.keep ⟨rfl,rfl,kV rfl (by rw[Al]),kW rfl,trivial⟩⟩
 refine bg (b:=decide (((k+1:Nat):Int)≤3)) (decide_eq_false (by omega)) rfl ?_;obtain rfl:k=3:=by omega
 replace lG:xs=Fo tx:=lG;refine aJ<|aM<|aM<|b_<|ai<|aD rfl<|ak<|aD rfl<|aw ?_
 refine aZ (fun m a' w=> ∃(k:Nat) (ad:Option Addr) (c8:Nat) (xs:List bc) (g':G),w=g'.w∧St g g' [rF ad c8 xs,oF b3]∧G.le g g'∧eQ g' (.agg #[vI f.bS,vI f.cd,.slice a1 n1 c1,.slice a2 n2 c2]) f∧EP g' b4 0 [vI f.bS,vI f.cd,.slice a1 n1 c1,.slice a2 n2 c2]∧k≤12∧xs.length=4+10*k∧xs=Fo tx++(List.range (10*k)).map A_∧m=12-k∧
   Fr 59 [] [(3,vP b3),(4,vP b4),(7,.slice ad xs.length c8),(9,vI (10*k:Nat)),(10,vI (k:Nat))] a') 12
  (fun a' ha=>⟨0,_,_,xs,_,rfl,hs,aj,eo,aq,by omega,nL,by rw[lG];exact(aaI _).symm,rfl,ha.kp rfl⟩) ?_
 clear lG nL;(repeat clear hs);(repeat clear aj);(repeat clear aq);(repeat clear eo);rintro m a' _ ⟨k,ad,c8,xs,g',rfl,hs,aj,eo,aq,hk,nL,lG,rfl,dT⟩;revert a';refine bT<|ak<|aD rfl ?_;by_cases hkt:k<12
 ·refine aG (b:=decide ((k:Int)<12)) (decide_eq_true (by omega)) rfl<|ar<|ai<|ak<|aw<|aD rfl<|aw ?_
  refine aZ (fun m a' w=> ∃(h:Nat) (ad:Option Addr) (c8:Nat) (xs:List bc) (g':G),w=g'.w∧St g g' [rF ad c8 xs,oF b3]∧G.le g g'∧eQ g' (.agg #[vI f.bS,vI f.cd,.slice a1 n1 c1,.slice a2 n2 c2]) f∧EP g' b4 0 [vI f.bS,vI f.cd,.slice a1 n1 c1,.slice a2 n2 c2]∧h≤2∧xs.length=4+(10*k+5*h)∧xs=Fo tx++(List.range (10*k+5*h)).map A_∧m=2-h∧
    Fr 59 [] [(3,vP b3),(4,vP b4),(7,.slice ad xs.length c8),(9,vI (10*k+5*h:Nat)),(10,vI (k:Nat)),(11,vI (h:Nat))] a') 2
   (fun a' ha=>⟨0,_,_,xs,_,rfl,hs,aj,eo,aq,by omega,nL,lG,rfl,ha.kp rfl⟩) ?_
  clear lG nL;(repeat clear hs);(repeat clear aj);(repeat clear aq);(repeat clear eo);rintro m a' _ ⟨h,ad,c8,xs,g',rfl,hs,aj,eo,aq,hh,nL,lG,rfl,dT⟩;revert a';refine bT<|ak<|aD rfl ?_;by_cases hht:h<2
  ·refine aG (b:=decide ((h:Int)<2)) (decide_eq_true (by omega)) rfl<|ar<|ai<|ak<|aw<|aD rfl<|aw ?_
   refine aZ (fun m a' w=> ∃(j:Nat) (ad:Option Addr) (c8:Nat) (xs:List bc) (g':G),w=g'.w∧St g g' [rF ad c8 xs,oF b3]∧G.le g g'∧eQ g' (.agg #[vI f.bS,vI f.cd,.slice a1 n1 c1,.slice a2 n2 c2]) f∧EP g' b4 0 [vI f.bS,vI f.cd,.slice a1 n1 c1,.slice a2 n2 c2]∧j≤5∧xs.length=4+(10*k+5*h+j)∧xs=Fo tx++(List.range (10*k+5*h+j)).map A_∧m=5-j∧
     Fr 59 [] [(3,vP b3),(4,vP b4),(7,.slice ad xs.length c8),(9,vI (10*k+5*h+j:Nat)),(10,vI (k:Nat)),(11,vI (h:Nat)),(12,vI (j+1:Nat))] a') 5
    (fun a' ha=>⟨0,_,_,xs,_,rfl,hs,aj,eo,aq,by omega,nL,lG,rfl,ha.kp rfl⟩) ?_
   clear lG nL;(repeat clear hs);(repeat clear aj);(repeat clear aq);(repeat clear eo);rintro m a' _ ⟨j,ad,c8,xs,g',rfl,hs,aj,eo,aq,hj,nL,lG,rfl,dT⟩;revert a';refine bT<|ak<|aD rfl ?_;by_cases hjt:j<5
   ·refine aG (b:=decide (((j+1:Nat):Int)≤5)) (decide_eq_true (by omega)) rfl<|ar<|ai<|ak<|aw<|aD rfl<|ah<|Wp 5 rfl<|cT (vI ((10*k+5*h+j+1:Nat):Int)) (t:=50) rfl (congrArg (Value.int .i64) (by rw[wq];omega))<|hZ [(0,vI 6),(2,vI 1),(1,vI (10*k+5*h+j+1:Nat)),(11,vI (k:Nat)),(12,vI (h:Nat)),(14,vI (j+1:Nat)),(15,vI 1),(6,vI 1000000)] (bK (sV k h j)) [(0,1),(1,1),(2,1),(3,1),(4,1),(5,1),(6,1),(7,1),(8,1),(9,1),(10,1),(11,1),(12,1),(13,1),(14,1),(15,1),(16,1),(17,1),(18,1)] rfl<|iX [(0,fv (sV k h j))] (bK (sV k h j)) hs rfl rfl fun bl gl hs ag=>?_;obtain⟨aj,aq,eo⟩:=eS ag aj aq eo;refine aN rfl rfl<|ba T.ok 1 rfl hs rfl rfl rfl rfl rfl rfl rfl (by decide) rfl (Src.dZ (hs.own 0 _ rfl).1).2 (by simp[bK,Value.oneCell']) (by show(xs.length+1)*160≤_;omega) (by show xs.length+1≤maxLen;unfold maxLen;omega) fun a6 c6 g10 hs ag=>?_;obtain⟨aj,aq,eo⟩:=eS ag aj aq eo;have uD:fl (xs++[sV k h j])=fl xs++bK (sV k h j):=by rw[jM];exact congrArg (fl xs++ ·) (aaI _)
    have Al:(xs++[sV k h j]).length=xs.length+1:=by simp
    replace hs:St g g10 [rF a6 c6 (xs++[sV k h j]),oF b3]:=by unfold rF;rw[uD,Al];exact hs.drop 0
    exact Wp 1 rfl<|an<|aX<|ai<|ah<|Wp 3 rfl<|an<|fun a ha=>⟨5-(j+1),by omega,j+1,a6,c6,xs++[sV k h j],_,rfl,hs,aj,eo,aq,by omega,by rw[Al,nL];omega,by rw[←abv,DI,lG,KU hht hjt,aaG],rfl,ha.keep ⟨rfl,rfl,kV rfl (by rw[Al]),kW rfl,rfl,rfl,kW rfl,trivial⟩⟩
   refine bg (b:=decide (((j+1:Nat):Int)≤5)) (decide_eq_false (by omega)) rfl ?_;obtain rfl:j=5:=by omega
   exact aJ<|aM<|aM<|b_<|aX<|ai<|ah<|Wp 3 rfl<|an<|fun a ha=>⟨2-(h+1),by omega,h+1,ad,c8,xs,_,rfl,hs,aj,eo,aq,by omega,by rw[nL];omega,by rw[lG];rfl,rfl,ha.keep ⟨rfl,rfl,rfl,rfl,rfl,kW rfl,trivial⟩⟩
  refine bg (b:=decide ((h:Int)<2)) (decide_eq_false (by omega)) rfl ?_;obtain rfl:h=2:=by omega
  exact aJ<|aM<|aM<|b_<|aX<|ai<|ah<|Wp 3 rfl<|an<|fun a ha=>⟨12-(k+1),by omega,k+1,ad,c8,xs,_,rfl,hs,aj,eo,aq,by omega,by rw[nL];omega,by rw[lG];rfl,rfl,ha.keep ⟨rfl,rfl,rfl,rfl,kW rfl,trivial⟩⟩
 refine bg (b:=decide ((k:Int)<12)) (decide_eq_false (by omega)) rfl ?_;obtain rfl:k=12:=by omega
 replace lG:xs=Fm tx:=lG;refine aJ<|aM<|aM<|b_<|ai<|ak ?_;apply aO hs (eA (fe [])) 3 [(1,58),(2,2)] (by kernel_rfl) rfl
 ·exact mX [[],[],[0,0]] [.z aq] hs rfl
 (repeat clear hs);intro g6 hs ag;replace eo:=eo.mono ag;refine dC 1 hs rfl fun g1 hs ag=>?_;replace eo:=eo.mono ag;exact bE<|au (S3 T.ok 1 rfl hs rfl rfl rfl rfl (hs.ret ⟨_,_,rfl,by rw[←lG];exact hs.nu (i:=0) rfl (cR.fl _ _),eo⟩))
end Go.Proofs.YtkpojaffabjibaaGreatDoor
namespace Go.K
open Go Go.RowKit
variable {α:Type} [kL α]
variable {F:Fence} {P:Program} {N:Nat} {ds:List Deferred} {l:Env} {w:World} {Q:Exit→Act→World→Prop} {o:Oper} {g0 g:G} {L:List dc} {K:Value→World→Prop}
theorem LB{xs:List α}{j:Nat}{y:α}(h:xs[j]? =some y){f:Nat}{v:Value}(hf:(kL.enc y)[f]? =some v):(fl xs)[j*kL.k α+f]? =some v:=by
 obtain⟨hj,rfl⟩:=aaN.1 h;have e:(fl (xs.take j)).length=j*kL.k α:=by rw[pF,aat,abD (by omega)]
 have qn:=(aaN.1 hf).1;rw[oZ xs hj,←e,aby (Nat.le_add_right ..),abO,abV qn,hf]
theorem Og{xs:List α}{j:Nat}{y y':α}(h:xs[j]? =some y){f:Nat}{v:Value}(hf:f+1≤(kL.enc y).length)(hs:nY (kL.enc y) f [v]=kL.enc y'):nY (fl xs) (j*kL.k α+f) [v]=fl (xs.set j y'):=by
 obtain⟨hj,rfl⟩:=aaN.1 h;have e:(fl (xs.take j)).length=j*kL.k α:=by rw[pF,aat,abD (by omega)]
 rw[oZ xs hj,←e,Bh,DW hf,hs];rw[oZ (xs.set j y') (i:=j) (by rw[abI];exact hj),List.getElem_set_self,List.take_set_of_le (aaz _),ac5 (by omega)]
theorem kA[eE P](i f:Nat){t:Nat}{ti:TI}{x:Operand}{e:TypeId}{b p c n m j:Nat}{xs:List α}{v:Value}(ho:o.op= .load t x)(hs:St g0 g L)
  (hi:L[i]? =some (.row e (kL.k α) (.slice (some ⟨b,p,none⟩) n c) m (fl xs))) (hx:ev l x=some (.pointer (some ⟨b,p+j*kL.k α+f,none⟩))) {y:α} (hj:xs[j]? =some y) (hf:(kL.enc y)[f]? =some v)
  (ht:tl (eE.tb P) t=some ti) (ha:xh ti.desc=false) (k:K v g.w):cQ F P N ds o l g.w Q K:=by
 refine eW eE.ok (j*kL.k α+f) ho (hs.own i _ hi).1 (by rw[hx,abv]) ?_ k;unfold Ad;rw[ht];simp only[ha,cond_false];exact LB hj hf
theorem fW[eE P](i f:Nat){t:Nat}{ti:TI}{x z:Operand}{e:TypeId}{b p c n m j:Nat}{xs:List α}{v:Value}(ho:o.op= .store t x z)(hs:St g0 g L)
  (hi:L[i]? =some (.row e (kL.k α) (.slice (some ⟨b,p,none⟩) n c) m (fl xs))) (hx:ev l x=some (.pointer (some ⟨b,p+j*kL.k α+f,none⟩))) {y:α} (y':α) (hy:ev l z=some v) (hj:xs[j]? =some y) (hf:Nat.ble (f+1) (kL.enc y).length=true) (kP:nY (kL.enc y) f [v]=kL.enc y')
  (ht:tl (eE.tb P) t=some ti) (hu:v.cells=#[v]) (hl:1=ti.size) (h1:Value.oneCell' v=true)
  (kk: ∀g',St g0 g' (L.set i (.row e (kL.k α) (.slice (some ⟨b,p,none⟩) n c) m (fl (xs.set j y'))))→g.le g'→K undef g'.w):cQ F P N ds o l g.w Q K:=by
 have gN:f+1≤kL.k α:=by rw[←kL.len y];exact ab7 hf
 have I9:=(aaN.1 hj).1;exact iC eE.ok i (j*kL.k α+f) ho hs hi (by rw[hx,abv]) hy ht (us:=[v]) hu hl (by simp[h1]) (Nat.zero_lt_one) (by have:=F7 xs I9;show _+1≤_;omega) (Og hj (ab7 hf) kP) kk
end Go.K
namespace Go.Proofs.YtkpojaffabjibaaGreatDoor
open Go Go.K Tryz
attribute [local irreducible] W WL cQ aP bG aR aQ aS cK ct
set_option maxRecDepth 10000
set_option maxHeartbeats 1000000
def xA(x:bc):bc:={x with text:=x.text.take 300}
def xu(l:List bc)(n:Nat):List bc:=(l.take n).map xA
theorem KW(l:List UInt8):(l.take (min 300 l.length)).drop 0=l.take 300:=by
 rw[ab'];rcases Nat.le_total 300 l.length with h|h
 ·rw[abD h]
 rw[Nat.min_eq_right h,aaD (aaz _),aaD h]
theorem S4(v:Value)(l:List bc)(n:Nat)(g:G)(aA:Rs g v l)(hn:n≤1000):cN prog 28 #[v,vI n] g (lj 50 g (xu l n)):=by
 have hs:=(St.start g).eM 50 19 none;have aj:=G.le.refl g;obtain⟨a,c,rfl⟩:=aA.isSlice;refine enter func28 rfl ntmps28 rfl ?_;replace hs:St g _ [rF none 0 []]:=hs;refine aD rfl<|aD rfl<|ak<|aD rfl<|aw ?_
 refine aZ (fun m a' w=> ∃(ad:Option Addr) (c8:Nat) (xs:List bc) (g':G),w=g'.w∧St g g' [rF ad c8 xs]∧G.le g g'∧Rs g' (.slice a l.length c) l∧xs.length≤l.length∧xs.length≤n∧(l.take xs.length).map xA=xs∧m=l.length-xs.length∧
   Fr 36 [] [(0,.slice a l.length c),(1,vI n),(5,.slice ad xs.length c8),(6,vI (xs.length:Nat))] a') l.length
  (fun a' ha=>⟨none,0,[],_,rfl,hs,aj,aA,aar _,aar _,rfl,rfl,ha.kp rfl⟩) ?_
 (repeat clear hs);(repeat clear aA);(repeat clear aj);rintro m a' _ ⟨ad,c8,xs,g',rfl,hs,aj,aA,nL,Yo,hq,rfl,dT⟩;revert a';refine bT<|ak<|ck 5 rfl ?_;cases h1:decide ((xs.length:Int)<(l.length:Int))with
 |false=>
  have h1:=of_decide_eq_false h1;have e:xu l n=xs:=by unfold xu;rw[aaD (by omega)];rw[aaD (by omega)]at hq;exact hq
  refine aF rfl<|bI rfl ?_;rw[e];exact aJ<|aM<|aM<|b_<|ai<|aD rfl<|au (cg rfl hs (hs.nu (i:=0) rfl (cR.fl _ _)))
 |true=>
  have h1:=of_decide_eq_true h1;refine aF rfl ?_;cases h2:decide ((xs.length:Int)<(n:Int))with
  |false=>
   have h2:=of_decide_eq_false h2;have e:xu l n=xs:=by unfold xu;rw[show n=xs.length from by omega];exact hq
   refine bI rfl ?_;rw[e];exact aJ<|aM<|aM<|b_<|ai<|aD rfl<|au (cg rfl hs (hs.nu (i:=0) rfl (cR.fl _ _)))
  |true=>
   have h2:=of_decide_eq_true h2;refine bZ rfl ?_;have aV:xs.length<l.length:=by omega
   have eI:dq l (xs.length:Int)=some l[xs.length]:=bM rfl aV;have ed:(l.take (xs.length+1)).map xA=xs++[xA l[xs.length]]:=by rw[aaV,aas aV,aa3,hq];rfl
   generalize l[xs.length]=x at eI ed;clear hq;refine ar<|ai<|ak<|aw<|ck 2 rfl<|fP (y:=x) aA eI rfl ?_;rintro b9 q9 OM aK rfl;have aq:=aK;clear aK;refine dE 1 [.e aq 0] rfl<|fA hs rfl fun b7 g1 hs ag=>?_;obtain⟨aj,aA⟩:=cA ag aj aA;refine dC 0 hs rfl fun g1 hs ag=>?_;obtain⟨aj,aA⟩:=cA ag aj aA;replace hs:St g g1 [vO b7 (bK x) 50,rF ad c8 xs]:=hs;refine bE<|jd 6 [.o 0,.o 0] hs rfl<|cT (vI (min 300 x.text.length:Nat)) (t:=28) rfl (congrArg (Value.int .i64) (by rw[bX];split<;>omega))<|aN rfl rfl<|oY T.ok (s:=x.text) (a:=0) (b:=min 300 x.text.length) rfl rfl rfl rfl rfl ⟨_,rfl⟩ (aar _) (by omega)<|cT (.string (bs (x.text.take 300))) (t:=29) rfl (congrArg (fun z=>Value.string (bs z)) (KW x.text))<|Wp 1 rfl<|dC 0 hs rfl fun g1 hs ag=>?_;obtain⟨aj,aA⟩:=cA ag aj aA;replace hs:St g g1 [vO b7 (bK (xA x)) 50,rF ad c8 xs]:=hs;refine bE<|ah<|Wm 2 [.o 0] hs rfl ?_;obtain⟨g2,fm,dm,ag,aK⟩:=hs.fM (i:=0) rfl;replace hs:=dm;clear dm;rw[←fm];obtain⟨aj,aA⟩:=cA ag aj aA;replace hs:St g g2 [rF ad c8 xs]:=hs;refine iX [(0,fv (xA x))] (bK (xA x)) hs rfl rfl fun bl gl hs ag=>?_;obtain⟨aj,aA⟩:=cA ag aj aA;refine aN rfl rfl<|ba T.ok 1 rfl hs rfl rfl rfl rfl rfl rfl rfl (by decide) rfl (Src.dZ (hs.own 0 _ rfl).1).2 (by simp[bK,Value.oneCell']) (by show(xs.length+1)*160≤_;omega) (by show xs.length+1≤maxLen;unfold maxLen;omega) fun a6 c6 g10 hs ag=>?_;obtain⟨aj,aA⟩:=cA ag aj aA;have uD:fl (xs++[xA x])=fl xs++bK (xA x):=by rw[jM];exact congrArg (fl xs++ ·) (aaI _)
   have Al:(xs++[xA x]).length=xs.length+1:=by simp
   replace hs:St g g10 [rF a6 c6 (xs++[xA x])]:=by unfold rF;rw[uD,Al];exact hs.drop 0
   exact Wp 1 rfl<|an<|aX<|ai<|ah<|Wp 3 rfl<|an<|fun a ha=>⟨l.length-(xs.length+1),by omega,a6,c6,xs++[xA x],_,rfl,hs,aj,aA,by omega,by omega,by rw[Al];exact ed,by rw[Al],ha.keep ⟨rfl,rfl,kV rfl (by rw[Al]),kI rfl (by rw[wq,Al];omega),trivial⟩⟩
def nG(x:bc):bc:=
 bif x.kind==1 then {x with waf:=IntKind.i64.wrap (1+aC x.waf 4),tool:=aC x.tool 6,step:=aC x.step 5,rcp:=IntKind.i64.wrap (1+aC x.rcp 5),rvn:=1}
 else bif x.kind==4 then {x with waf:=IntKind.i64.wrap (1+aC x.waf 4),prod:=1}
 else bif x.kind==7 then {x with waf:=aC x.waf 5,rcp:=0,rvn:=0}else x
def UD(x:bc):Prop:=jJ x.waf∧jJ x.tool∧jJ x.step∧jJ x.rcp
abbrev rN(b p N c:Nat)(xs:List bc):dc:=.row 50 19 (.slice (some ⟨b,p,none⟩) N c) N (fl xs)
theorem gK{α:Type}(pre:List α)(x:α)(post:List α):(pre++x::post)[pre.length]? =some x:=by simp
theorem mj{α:Type}(pre:List α)(x y:α)(post:List α):(pre++x::post).set pre.length y=pre++y::post:=by simp
theorem GG{x:bc}(h:(x.kind==1)=true):nG x={x with waf:=IntKind.i64.wrap (1+aC x.waf 4),tool:=aC x.tool 6,step:=aC x.step 5,rcp:=IntKind.i64.wrap (1+aC x.rcp 5),rvn:=1}:=by unfold nG;rw[h];rfl
theorem GH{x:bc}(h:(x.kind==1)=false)(h2:(x.kind==4)=true):nG x={x with waf:=IntKind.i64.wrap (1+aC x.waf 4),prod:=1}:=by unfold nG;rw[h,h2];rfl
theorem GI{x:bc}(h:(x.kind==1)=false)(h2:(x.kind==4)=false)(h3:(x.kind==7)=true):nG x={x with waf:=aC x.waf 5,rcp:=0,rvn:=0}:=by unfold nG;rw[h,h2,h3];rfl
theorem GJ{x:bc}(h:(x.kind==1)=false)(h2:(x.kind==4)=false)(h3:(x.kind==7)=false):nG x=x:=by unfold nG;rw[h,h2,h3];rfl
def AS(l:List bc)(n:Nat):List bc:=(xu l n).map nG
theorem P9(v:Value)(l:List bc)(n:Nat)(g:G)(aA:Rs g v l)(hn:n≤1000)(EU: ∀x∈l,UD x):cN prog 8 #[v,vI n] g fun g' r=>Rs g' r (AS l n):=by
 have hs:=St.start g;have aj:=G.le.refl g;refine enter func8 rfl ntmps8 rfl<|aD rfl<|ck 2 rfl<|d_ rfl (S4 _ l n _ aA hn) ?_;rintro g1 v1 aH ⟨cells,hh,fw⟩;obtain rfl:=lf fw;replace hs:=hs.jl aH hh;have ag:=aH.le;replace aj:=G.le.trans aj ag;clear hh fw aH aA
 have hfy: ∀x∈xu l n,UD x:=by intro x hx;obtain⟨y,hy,rfl⟩:=aaU.1 hx;exact EU y (abX hy)
 have hyl:(xu l n).length≤1000:=by unfold xu;rw[aaS,aat];omega
 unfold AS;generalize xu l n=ys at*;obtain⟨ad,c,rfl⟩:=(hs.own 0 _ rfl).1.form;generalize hN:ys.length=N at*;replace hs:St g g1 [.row 50 19 (.slice ad N c) N (fl ys)]:=hs;refine aF rfl<|ak<|aD rfl<|aw ?_
 refine aZ (fun m a' w=> ∃(pre post:List bc) (ad:Option Addr) (c:Nat) (g':G),w=g'.w∧St g g' [.row 50 19 (.slice ad N c) N (fl (pre++post))]∧G.le g g'∧(pre++post).length=N∧pre++post.map nG=ys.map nG∧(∀x∈post,UD x)∧m=N-pre.length∧
   Fr 94 [] [(5,.slice ad N c),(6,vI (pre.length:Nat))] a') N
  (fun a' ha=>⟨[],ys,ad,c,_,rfl,hs,aj,hN,rfl,hfy,rfl,ha.kp rfl⟩) ?_
 (repeat clear hs);(repeat clear aj);clear hN;rintro m a' _ ⟨pre,post,ad,c,g',rfl,hs,aj,hN,hq,Qy,rfl,dT⟩;revert a';refine bT<|ak<|aD rfl ?_;cases post with
 |nil=>
  rw[aaI]at hN;refine bg (b:=decide ((pre.length:Int)<(N:Int))) (decide_eq_false (by omega)) rfl ?_;rw[aaI]at hs;rw[acy,aaI]at hq;refine aJ<|aM<|aM<|b_<|ai<|aD rfl ?_;obtain⟨g8,AK,oI,ag,sx⟩:=hs.cD (α:=bc) (i:=0) rfl (cR.fl _ _);rw[←AK];(repeat clear hs);have hs:=oI;clear oI;exact au (cg rfl hs (by rw[←hq];exact sx))
 |cons x post=>
  have hN':pre.length<N:=by rw[←hN];simp
  refine aG (b:=decide ((pre.length:Int)<(N:Int))) (decide_eq_true (by omega)) rfl ?_;obtain⟨i1,i2,i3,i4⟩:=Qy x (aaT ..);have Qy:=fun y hy=>Qy y (aaR x hy);refine ar<|ai<|ak<|aw<|ck 2 rfl<|aN rfl rfl (dB (α:=bc) 0 rfl hs rfl (acz _) (by simpa using hN') rfl rfl rfl rfl rfl rfl fun b p hb=>?_);subst hb;replace hs:St g g' [rN b p N c (pre++x::post)]:=hs;refine aF rfl<|ck 3 rfl<|aN rfl rfl<|kA (α:=bc) 0 0 rfl hs rfl rfl (j:=pre.length) (gK pre _ post) rfl rfl rfl<|bE<|aw<|aD rfl ?_;cases h1:x.kind==1 with
  |true=>
   have E2:=GG h1;refine bZ rfl<|ck 4 rfl<|aN rfl rfl<|kA (α:=bc) 0 7 rfl hs rfl rfl (j:=pre.length) (gK pre _ post) rfl rfl rfl<|d_ rfl (jy x.waf 4 _ i1 (by decide)) ?_;rintro g1 _ aH rfl;replace hs:=hs.call aH;have ag:=aH.le;replace aj:=G.le.trans aj ag;clear aH;refine Wp 3 rfl<|gw rfl<|fW (α:=bc) 0 7 rfl hs rfl rfl (j:=pre.length) ({x with waf:=IntKind.i64.wrap (1+aC x.waf 4)}) rfl (gK pre _ post) rfl rfl rfl rfl rfl rfl ?_;(repeat clear hs);rintro g1 hs ag;replace aj:=G.le.trans aj ag;rw[mj]at hs;replace hs:St g g1 [rN b p N c (pre++({x with waf:=IntKind.i64.wrap (1+aC x.waf 4)})::post)]:=hs;refine bE<|ck 4 rfl<|aN rfl rfl<|kA (α:=bc) 0 11 rfl hs rfl rfl (j:=pre.length) (gK pre _ post) rfl rfl rfl<|d_ rfl (jy x.tool 6 _ i2 (by decide)) ?_;rintro g1 _ aH rfl;replace hs:=hs.call aH;have ag:=aH.le;replace aj:=G.le.trans aj ag;clear aH;refine Wp 2 rfl<|gw rfl<|fW (α:=bc) 0 11 rfl hs rfl rfl (j:=pre.length) ({x with waf:=IntKind.i64.wrap (1+aC x.waf 4),tool:=aC x.tool 6}) rfl (gK pre _ post) rfl rfl rfl rfl rfl rfl ?_;(repeat clear hs);rintro g1 hs ag;replace aj:=G.le.trans aj ag;rw[mj]at hs;replace hs:St g g1 [rN b p N c (pre++({x with waf:=IntKind.i64.wrap (1+aC x.waf 4),tool:=aC x.tool 6})::post)]:=hs;refine bE<|ck 4 rfl<|aN rfl rfl<|kA (α:=bc) 0 13 rfl hs rfl rfl (j:=pre.length) (gK pre _ post) rfl rfl rfl<|d_ rfl (jy x.step 5 _ i3 (by decide)) ?_;rintro g1 _ aH rfl;replace hs:=hs.call aH;have ag:=aH.le;replace aj:=G.le.trans aj ag;clear aH;refine Wp 2 rfl<|gw rfl<|fW (α:=bc) 0 13 rfl hs rfl rfl (j:=pre.length) ({x with waf:=IntKind.i64.wrap (1+aC x.waf 4),tool:=aC x.tool 6,step:=aC x.step 5}) rfl (gK pre _ post) rfl rfl rfl rfl rfl rfl ?_;(repeat clear hs);rintro g1 hs ag;replace aj:=G.le.trans aj ag;rw[mj]at hs;replace hs:St g g1 [rN b p N c (pre++({x with waf:=IntKind.i64.wrap (1+aC x.waf 4),tool:=aC x.tool 6,step:=aC x.step 5})::post)]:=hs;refine bE<|ck 4 rfl<|aN rfl rfl<|kA (α:=bc) 0 14 rfl hs rfl rfl (j:=pre.length) (gK pre _ post) rfl rfl rfl<|d_ rfl (jy x.rcp 5 _ i4 (by decide)) ?_;rintro g1 _ aH rfl;replace hs:=hs.call aH;have ag:=aH.le;replace aj:=G.le.trans aj ag;clear aH;refine Wp 3 rfl<|gw rfl<|fW (α:=bc) 0 14 rfl hs rfl rfl (j:=pre.length) ({x with waf:=IntKind.i64.wrap (1+aC x.waf 4),tool:=aC x.tool 6,step:=aC x.step 5,rcp:=IntKind.i64.wrap (1+aC x.rcp 5)}) rfl (gK pre _ post) rfl rfl rfl rfl rfl rfl ?_;(repeat clear hs);rintro g1 hs ag;replace aj:=G.le.trans aj ag;rw[mj]at hs;replace hs:St g g1 [rN b p N c (pre++({x with waf:=IntKind.i64.wrap (1+aC x.waf 4),tool:=aC x.tool 6,step:=aC x.step 5,rcp:=IntKind.i64.wrap (1+aC x.rcp 5)})::post)]:=hs;refine bE<|ah<|Wp 3 rfl<|gw rfl<|fW (α:=bc) 0 15 rfl hs rfl rfl (j:=pre.length) ({x with waf:=IntKind.i64.wrap (1+aC x.waf 4),tool:=aC x.tool 6,step:=aC x.step 5,rcp:=IntKind.i64.wrap (1+aC x.rcp 5),rvn:=1}) rfl (gK pre _ post) rfl rfl rfl rfl rfl rfl ?_;(repeat clear hs);rintro g1 hs ag;replace aj:=G.le.trans aj ag;rw[mj]at hs;replace hs:St g g1 [rN b p N c (pre++({x with waf:=IntKind.i64.wrap (1+aC x.waf 4),tool:=aC x.tool 6,step:=aC x.step 5,rcp:=IntKind.i64.wrap (1+aC x.rcp 5),rvn:=1})::post)]:=hs;exact an<|aX<|aX<|ai<|ah<|Wp 3 rfl<|an<|fun a ha=>⟨N-(pre.length+1),by omega,pre++[nG x],post,some ⟨b,p,none⟩,c,_,rfl,by rw[E2];simpa using hs,aj,by simp at hN⊢;omega,by rw[←hq];simp,Qy,by simp,ha.keep ⟨rfl,kI rfl (by rw[wq];simp),trivial⟩⟩
  |false=>
   refine bI rfl<|aD rfl ?_;cases h2:x.kind==4 with
   |true=>
    have E2:=GH h1 h2;refine bZ rfl<|ck 4 rfl<|aN rfl rfl<|kA (α:=bc) 0 7 rfl hs rfl rfl (j:=pre.length) (gK pre _ post) rfl rfl rfl<|d_ rfl (jy x.waf 4 _ i1 (by decide)) ?_;rintro g1 _ aH rfl;replace hs:=hs.call aH;have ag:=aH.le;replace aj:=G.le.trans aj ag;clear aH;refine Wp 3 rfl<|gw rfl<|fW (α:=bc) 0 7 rfl hs rfl rfl (j:=pre.length) ({x with waf:=IntKind.i64.wrap (1+aC x.waf 4)}) rfl (gK pre _ post) rfl rfl rfl rfl rfl rfl ?_;(repeat clear hs);rintro g1 hs ag;replace aj:=G.le.trans aj ag;rw[mj]at hs;replace hs:St g g1 [rN b p N c (pre++({x with waf:=IntKind.i64.wrap (1+aC x.waf 4)})::post)]:=hs;refine bE<|ah<|Wp 3 rfl<|gw rfl<|fW (α:=bc) 0 10 rfl hs rfl rfl (j:=pre.length) ({x with waf:=IntKind.i64.wrap (1+aC x.waf 4),prod:=1}) rfl (gK pre _ post) rfl rfl rfl rfl rfl rfl ?_;(repeat clear hs);rintro g1 hs ag;replace aj:=G.le.trans aj ag;rw[mj]at hs;replace hs:St g g1 [rN b p N c (pre++({x with waf:=IntKind.i64.wrap (1+aC x.waf 4),prod:=1})::post)]:=hs;exact an<|aX<|aX<|ai<|ah<|Wp 3 rfl<|an<|fun a ha=>⟨N-(pre.length+1),by omega,pre++[nG x],post,some ⟨b,p,none⟩,c,_,rfl,by rw[E2];simpa using hs,aj,by simp at hN⊢;omega,by rw[←hq];simp,Qy,by simp,ha.keep ⟨rfl,kI rfl (by rw[wq];simp),trivial⟩⟩
   |false=>
    refine bI rfl<|aD rfl ?_;cases h3:x.kind==7 with
    |true=>
     have E2:=GI h1 h2 h3;refine bZ rfl<|ck 4 rfl<|aN rfl rfl<|kA (α:=bc) 0 7 rfl hs rfl rfl (j:=pre.length) (gK pre _ post) rfl rfl rfl<|d_ rfl (jy x.waf 5 _ i1 (by decide)) ?_;rintro g1 _ aH rfl;replace hs:=hs.call aH;have ag:=aH.le;replace aj:=G.le.trans aj ag;clear aH;refine Wp 2 rfl<|gw rfl<|fW (α:=bc) 0 7 rfl hs rfl rfl (j:=pre.length) ({x with waf:=aC x.waf 5}) rfl (gK pre _ post) rfl rfl rfl rfl rfl rfl ?_;(repeat clear hs);rintro g1 hs ag;replace aj:=G.le.trans aj ag;rw[mj]at hs;replace hs:St g g1 [rN b p N c (pre++({x with waf:=aC x.waf 5})::post)]:=hs;refine bE<|ck 3 rfl<|gw rfl<|fW (α:=bc) 0 14 rfl hs rfl rfl (j:=pre.length) ({x with waf:=aC x.waf 5,rcp:=0}) rfl (gK pre _ post) rfl rfl rfl rfl rfl rfl ?_;(repeat clear hs);rintro g1 hs ag;replace aj:=G.le.trans aj ag;rw[mj]at hs;replace hs:St g g1 [rN b p N c (pre++({x with waf:=aC x.waf 5,rcp:=0})::post)]:=hs;refine bE<|ah<|Wp 3 rfl<|gw rfl<|fW (α:=bc) 0 15 rfl hs rfl rfl (j:=pre.length) ({x with waf:=aC x.waf 5,rcp:=0,rvn:=0}) rfl (gK pre _ post) rfl rfl rfl rfl rfl rfl ?_;(repeat clear hs);rintro g1 hs ag;replace aj:=G.le.trans aj ag;rw[mj]at hs;replace hs:St g g1 [rN b p N c (pre++({x with waf:=aC x.waf 5,rcp:=0,rvn:=0})::post)]:=hs;exact an<|aX<|aX<|ai<|ah<|Wp 3 rfl<|an<|fun a ha=>⟨N-(pre.length+1),by omega,pre++[nG x],post,some ⟨b,p,none⟩,c,_,rfl,by rw[E2];simpa using hs,aj,by simp at hN⊢;omega,by rw[←hq];simp,Qy,by simp,ha.keep ⟨rfl,kI rfl (by rw[wq];simp),trivial⟩⟩
    |false=>
     have E2:=GJ h1 h2 h3;exact bI rfl<|ar<|aX<|aX<|ai<|ah<|Wp 3 rfl<|an<|fun a ha=>⟨N-(pre.length+1),by omega,pre++[nG x],post,some ⟨b,p,none⟩,c,_,rfl,by rw[E2];simpa using hs,aj,by simp at hN⊢;omega,by rw[←hq];simp,Qy,by simp,ha.keep ⟨rfl,kI rfl (by rw[wq];simp),trivial⟩⟩
structure Y7 where
 z0:Int
 z1:Int
 z2:Int
 z3:Int
 z4:Int
 z5:Int
 z6:Int
def Y7.fit(z:Y7):Prop:=jJ z.z0∧jJ z.z1∧jJ z.z2∧jJ z.z3∧jJ z.z4∧jJ z.z5∧jJ z.z6
def UE(z:Y7):List Value:=[vI z.z0,vI z.z1,vI z.z2,vI z.z3,vI z.z4,vI z.z5,vI z.z6]
def yF(z:Y7):gW:=⟨IntKind.i64.wrap (1+aC z.z0 4),aC z.z1 5,aC z.z2 6,aC z.z3 3,IntKind.i64.wrap (1+aC z.z4 5),IntKind.i64.wrap (1+IntKind.i64.wrap ((aC z.z5 8).tdiv 7)),aC z.z6 120⟩
theorem Sl(z:Y7)(g:G)(hz:z.fit):cN prog 12 #[.agg (UE z).toArray] g fun _ r=>r=EL (yF z):=by
 obtain⟨i0,i1,i2,i3,i4,i5,i6⟩:=hz;have hs:=St.start g;refine enter func12 rfl ntmps12 rfl ?_;unfold UE;refine cO<|gF hs rfl fun b1 g2 hs ag aq=>fA hs rfl fun b2 g1 hs ag=>?_;replace aq:=aq.mono ag;refine bE<|ak ?_;apply aO hs (cV (cV (cV (fe (.e (EL (yF z))::[]))))) 26 [(25,28)] (by kernel_rfl) rfl
 ·exact aW [] (fun gd hf=>az (ay rfl (dG T.ok (q:=0) rfl rfl rfl rfl rfl rfl (by decide) (cC rfl))))<|cY [[0],[1],[2]] [.e aq 0,.c (cB 29) fun g' _=>jy z.z0 4 g' i0 (by decide)] hs rfl<|aW [] (fun gd hf=>az (ay rfl (dG T.ok (q:=1) rfl rfl rfl rfl rfl rfl (by decide) (cC rfl))))<|cY [[4],[5]] [.e aq 1,.c (cB 29) fun g' _=>jy z.z1 5 g' i1 (by decide)] hs rfl<|aW [] (fun gd hf=>az (ay rfl (dG T.ok (q:=2) rfl rfl rfl rfl rfl rfl (by decide) (cC rfl))))<|cY [[7],[8]] [.e aq 2,.c (cB 29) fun g' _=>jy z.z2 6 g' i2 (by decide)] hs rfl<|aW [] (fun gd hf=>az (ay rfl (dG T.ok (q:=3) rfl rfl rfl rfl rfl rfl (by decide) (cC rfl))))<|cY [[10],[11]] [.e aq 3,.c (cB 29) fun g' _=>jy z.z3 3 g' i3 (by decide)] hs rfl<|aW [] (fun gd hf=>az (ay rfl (dG T.ok (q:=4) rfl rfl rfl rfl rfl rfl (by decide) (cC rfl))))<|cY [[13],[14],[15]] [.e aq 4,.c (cB 29) fun g' _=>jy z.z4 5 g' i4 (by decide)] hs rfl<|aW [] (fun gd hf=>az (ay rfl (dG T.ok (q:=5) rfl rfl rfl rfl rfl rfl (by decide) (cC rfl))))<|cY [[17],[18],[19],[20]] [.e aq 5,.c (cB 29) fun g' _=>jy z.z5 8 g' i5 (by decide)] hs rfl<|aW [] (fun gd hf=>az (ay rfl (dG T.ok (q:=6) rfl rfl rfl rfl rfl rfl (by decide) (cC rfl))))<|cY [[22],[23]] [.e aq 6,.c (cB 29) fun g' _=>jy z.z6 120 g' i6 (by decide)] hs rfl<|aW [(3,6),(6,9),(9,12),(12,15),(16,19),(21,24),(24,27)] (fun gd hf=>lJ rfl (su rfl (ay rfl (iS T.ok rfl (vs:=[(0,vI (yF z).waf),(1,vI (yF z).step),(2,vI (yF z).tool),(3,vI (yF z).cham),(4,vI (yF z).rcp),(5,vI (yF z).rvn),(6,vI (yF z).time)]) (cells:=oo (yF z)) rfl rfl rfl rfl [(0,1),(1,1),(2,1),(3,1),(4,1),(5,1),(6,1)] rfl (by kernel_rfl) (cC rfl)))))<|fk
 (repeat clear hs);intro g6 hs ag;exact dC 0 hs rfl fun g1 hs ag=>bE<|au (my T.ok 0 rfl hs rfl rfl rfl (hs.ret rfl))
theorem Jn{α:Type}{k:α→Int×Int}{l S:List α}{x:α}{j:Nat}(hS:dI k l=S)(hj:j≤S.length)(h1: ∀i (h:i<S.length),j≤i→kl k x S[i]=true)(h2: ∀i (h:i<S.length),i+1=j→kl k x S[i]=false):
  dI k (l++[x])=S.take j++x::S.drop j:=by
 have hs:CX k S:=hS▸kU l;rw[qy,hS];have e:=xE (k:=k) (A:=S.take j) (B:=S.drop j) (x:=x) (fun a ha=>by
  obtain⟨i,hi,rfl⟩:=aa4.1 ha;rw[aat]at hi;rw[acn];have hk:=h2 (j-1) (by omega) (by omega);by_cases I8:i=j-1
  ·subst I8;exact hk
  ·exact rC hk (abu.1 hs i (j-1) (by omega) (by omega) (by omega))) (fun b hb=>by
  obtain⟨i,hi,rfl⟩:=aa4.1 hb;rw[aaM]at hi;rw[acR];exact h1 (j+i) (by omega) (by omega))
 rw[aaY]at e;exact e
def xi(f:bc)(m:Int):Int:=if m=f.waf then f.oth else if m=f.oth then f.waf else m
theorem Jo(f:bc)(m:MP)(k:Int):C0 (sM f m) k=C0 m (xi f k):=by
 have e: ∀(a x:Int) (m:MP) (b:Int),C0 (ip a x m) b=if b=a then x else C0 m b:=fun a x m b=>by unfold C0;rw[OJ];split<;>rfl
 unfold sM xi;rw[e,e];by_cases h1:k=f.oth
 ·by_cases h2:k=f.waf
  ·rw[if_pos h1,if_pos h2,←h1,←h2]
  rw[if_pos h1,if_neg h2,if_pos h1]
 by_cases h2:k=f.waf
 ·rw[if_neg h1,if_pos h2,if_pos h2]
 rw[if_neg h1,if_neg h2,if_neg h2,if_neg h1]
theorem C1: ∀(l:List bc) (M:MP) (k:Int),C0 (l.foldl (fun m f=>sM f m) M) k=C0 M (l.foldr xi k)
 |[],_,_=>rfl
 |f::l,M,k=>by rw[abT,C1 l,Jo];rfl
theorem HH(b:ft)(mark time:Int)(h:jH mark=true):qj b mark time=(dI lI (b.x7.filter (Gx time))).foldr xi mark:=by unfold qj yd;rw[if_pos h,C1];rfl
abbrev Gy(l:List Int):Prop:=l.Pairwise (· < ·)
theorem ye: ∀{l r:List Int},Gy l→Gy r→(∀x,x∈l↔x∈r)→l=r
 |[],[],_,_,_=>rfl
 |[],y::r,_,_,h=>absurd ((h y).2 (aaT ..)) abi
 |x::l,[],_,_,h=>absurd ((h x).1 (aaT ..)) abi
 |x::l,y::r,hl,hr,h=>by
  have BM:=aaZ.1 hl;have I7:=aaZ.1 hr;have OI:x=y:=by
   rcases aav.1 ((h x).1 (aaT ..))with e|e
   ·exact e
   rcases aav.1 ((h y).2 (aaT ..))with e2|e2
   ·exact e2.symm
   have:=I7.1 x e;have:=BM.1 y e2;omega
  subst OI;rw[ye BM.2 I7.2 fun z=>⟨fun hz=>?_,fun hz=>?_⟩]
  ·rcases aav.1 ((h z).1 (aaR _ hz))with e|e
   ·have:=BM.1 z hz;omega
   exact e
  rcases aav.1 ((h z).2 (aaR _ hz))with e|e
  ·have:=I7.1 z hz;omega
  exact e
theorem Jp(l:List Int)(n:Int): ∀x∈l.take (putAt l n),x<n:=by
 induction l with
 |nil=>simp
 |cons y l ih=>
  unfold putAt;rw[acb];split
  ·rename_i h;intro x hx;rw[aaw,List.take_succ_cons]at hx;rcases aav.1 hx with rfl|hx
   ·exact of_decide_eq_true h
   exact ih x hx
  simp
theorem C2{l:List Int}(n:Int)(hl:Gy l): ∀x∈l.drop (putAt l n),n≤x:=by
 induction l with
 |nil=>simp
 |cons y l ih=>
  have BM:=aaZ.1 hl;unfold putAt;rw[acb];split
  ·rename_i h;intro x hx;rw[aaw,ada]at hx;exact ih BM.2 x hx
  rename_i h;intro x hx;have h:=of_decide_eq_false (abS.2 h);rcases aav.1 hx with rfl|hx
  ·omega
  have:=BM.1 x hx;omega
theorem C3{l:List Int}{n x:Int}:x∈km l n↔x=n∨x∈l:=by
 unfold km;split
 ·rename_i h;exact⟨.inr,fun h2=>h2.elim (fun e=>e▸abm h) id⟩
 rw[aaJ,aav];conv=>rhs;rw[←aaY (putAt l n) l,aaJ]
 constructor
 ·rintro(h|h|h)
  ·exact .inr (.inl h)
  ·exact .inl h
  exact .inr (.inr h)
 rintro(h|h|h)
 ·exact .inr (.inl h)
 ·exact .inl h
 exact .inr (.inr h)
theorem C4{l:List Int}(n:Int)(hl:Gy l):Gy (km l n):=by
 unfold km;split
 ·exact hl
 rename_i h;have e:=aaY (putAt l n) l;have rD:=hl;rw[←e]at rD;obtain⟨h1,h2,h3⟩:=abN.1 rD;have AG: ∀x∈l.drop (putAt l n),n<x:=fun x hx=>by
  have EK:=C2 n hl x hx;cases hd:l.drop (putAt l n)with
  |nil=>rw[hd]at hx;cases hx
  |cons y r=>
   have hy:l[putAt l n]? =some y:=by have:=abB (xs:=l) (i:=putAt l n) (j:=0);rw[hd]at this;simpa using this.symm
   have hyn:y≠n:=fun e=>h (by rw[hy,e]);have Zx:=C2 n hl y (by rw[hd];exact aaT ..);rw[hd]at hx h2;rcases aav.1 hx with rfl|hx
   ·omega
   have:=(aaZ.1 h2).1 x hx;omega
 refine abN.2 ⟨h1,aaZ.2 ⟨AG,h2⟩,fun x hx y hy=>?_⟩;have R1:=Jp l n x hx;rcases aav.1 hy with rfl|hy
 ·exact R1
 have:=AG y hy;omega
theorem C5{zs:List Int}(h:zs.Pairwise (· ≤ ·)): ∀m,m≤zs.length→Gy (Lib.compactUpTo zs.toArray m)∧(∀x∈Lib.compactUpTo zs.toArray m,∃j,j<m∧zs[j]? =some x)∧ ∀j x,j<m→zs[j]? =some x→x∈Lib.compactUpTo zs.toArray m:=by
 intro m
 induction m with
 |zero=>intro _;exact⟨List.Pairwise.nil,fun x hx=>absurd hx (by simp[Lib.compactUpTo]),fun j x hj=>absurd hj (aco _)⟩
 |succ m ih=>
  intro hm;obtain⟨a,b,c⟩:=ih (by omega);have hz:zs.toArray[m]! =zs[m]:=by rw[getElem!_pos zs.toArray m (by simp;omega)];simp
  rw[Lib.compactUpTo_succ,hz];have aV:=abu.1 h;by_cases hk:Lib.keeps zs.toArray m=true
  ·rw[if_pos hk];refine⟨abN.2 ⟨a,List.pairwise_singleton _ _,fun x hx y hy=>?_⟩,fun x hx=>?_,fun j x hj hx=>?_⟩
   ·obtain rfl:=aaL.1 hy;obtain⟨j,hj,hx⟩:=b x hx;obtain⟨I9,rfl⟩:=aaN.1 hx;unfold Lib.keeps at hk;have hk:=of_decide_eq_true hk;rcases hk with hk|hk
    ·omega
    rw[hz,getElem!_pos zs.toArray (m-1) (by simp;omega)]at hk;have e1:zs[m]≠zs[m-1]:=by simpa using hk
    have h1:=aV (m-1) m (by omega) (by omega) (by omega);by_cases e:j=m-1
    ·subst e;omega
    have h2:=aV j (m-1) (by omega) (by omega) (by omega);omega
   ·rcases aaJ.1 hx with hx|hx
    ·obtain⟨j,hj,e⟩:=b x hx;exact⟨j,by omega,e⟩
    obtain rfl:=aaL.1 hx;exact⟨m,by omega,aas _⟩
   rw[aaJ];by_cases e:j=m
   ·subst e;obtain⟨_,rfl⟩:=aaN.1 hx;exact .inr (List.mem_singleton_self _)
   exact .inl (c j x (by omega) hx)
  rw[if_neg hk,aaI];refine⟨a,fun x hx=>?_,fun j x hj hx=>?_⟩
  ·obtain⟨j,hj,e⟩:=b x hx;exact⟨j,by omega,e⟩
  by_cases e:j=m
  ·subst e;obtain⟨_,rfl⟩:=aaN.1 hx;unfold Lib.keeps at hk;have hk:=of_decide_eq_false (abS.2 hk);rw[not_or]at hk;have e1:zs[j]=zs[j-1]:=by have:=hk.2;rw[hz,getElem!_pos zs.toArray (j-1) (by simp;omega)]at this;simpa using this
   rw[e1];exact c (j-1) _ (by omega) (aas _)
  exact c j x (by omega) hx
theorem qA{zs:List Int}(h:zs.Pairwise (· ≤ ·)):Gy (Lib.compact zs)∧ ∀x,x∈Lib.compact zs↔x∈zs:=by
 obtain⟨a,b,c⟩:=C5 h zs.length (aaz _);refine⟨a,fun x=>⟨fun hx=>?_,fun hx=>?_⟩⟩
 ·obtain⟨j,_,e⟩:=b x hx;exact abm e
 obtain⟨j,hj,rfl⟩:=aa4.1 hx;exact c j _ hj (aas _)
theorem yf(zs:List Int):(jI zs).Pairwise (· ≤ ·):=(vt zs).imp fun {a b} h=>by rw[jL]at h;omega
theorem yg{x:Int}{xs:List Int}:x∈jI xs↔x∈xs:=(acM xs _).mem_iff
theorem yh: ∀(xs l:List Int),Gy l→Gy (xs.foldl km l)∧ ∀x,x∈xs.foldl km l↔x∈xs∨x∈l
 |[],l,h=>⟨h,fun x=>⟨.inr,fun h=>h.elim (fun h=>absurd h abi) id⟩⟩
 |n::xs,l,h=>by
  obtain⟨a,b⟩:=yh xs (km l n) (C4 n h);refine⟨a,fun x=>?_⟩;rw[abT,b,C3,aav];constructor
  ·rintro(h|h|h)
   ·exact .inl (.inr h)
   ·exact .inl (.inl h)
   exact .inr h
  rintro((h|h)|h)
  ·exact .inr (.inl h)
  ·exact .inl h
  exact .inr (.inr h)
theorem BQ(xs:List Int):Lib.compact (jI xs)=xs.foldl km []:=by obtain⟨a,b⟩:=qA (yf xs);obtain⟨c,d⟩:=yh xs [] List.Pairwise.nil;refine ye a c fun x=>?_;rw[b,d,yg];exact⟨.inl,fun h=>h.elim id fun h=>absurd h abi⟩
theorem Jq{o:Option aU}{h:List bc}{n:Int}{s:Step}(ha:Gy s.next):xj o h n s=if decide (0≤s.back)&&decide (xk o h n<s.dv)then km s.next s.back else s.next:=by
 have hle:s.next.Pairwise (· ≤ ·):=ha.imp fun h=>Int.le_of_lt h;unfold xj;by_cases hc:0≤s.back∧xk o h n<s.dv
 ·rw[if_pos hc,if_pos (by simp[hc])];obtain⟨a,b⟩:=qA (yf (s.next++[s.back]));refine ye a (C4 _ ha) fun x=>?_;rw[b,yg,C3,aaJ,aaL];exact⟨fun h=>h.symm,fun h=>h.symm⟩
 rw[if_neg hc,if_neg (by simpa using hc)];obtain⟨a,b⟩:=qA hle;exact ye a ha b
theorem Gz{f:aU}(ha: ∀s∈f.steps,Gy s.next)(h:List bc):kY f h=oL (some f) h:=by
 rcases ach h with rfl|⟨hi,x,rfl⟩
 ·rfl
 rw[ab9];unfold oL;rw[if_neg (by simp),if_neg (by simp),show((hi++[x]).getLast?.getD fS)=x from by rw[ac1];rfl];cases hs:dq f.steps x.step with
 |none=>
  rw[BR hs,show iu (some f) x.step=none from hs]
 |some s=>
  rw[yi hs,show iu (some f) x.step=some s from hs];exact(Jq (ha s (abm (np hs).2.2))).symm
theorem AH{lo hi:Int}: ∀{p:Int} {l:List Int},kZ lo hi p l=true→Gy l∧ ∀n∈l,p<n
 |_,[],_=>⟨List.Pairwise.nil,fun n hn=>absurd hn abi⟩
 |p,m::r,h=>by
  simp only[kZ,aaA,decide_eq_true_eq]at h;obtain⟨a,b⟩:=AH h.2;refine⟨aaZ.2 ⟨b,a⟩,fun n hn=>?_⟩;rcases aav.1 hn with rfl|hn
  ·exact h.1.2
  have:=b n hn;have:=h.1.2;omega
theorem PJ{lo hi:Int}{l:List Int}(h:ascending l lo hi=true):Gy l:=by
 cases l with
 |nil=>exact List.Pairwise.nil
 |cons m r=>
  simp only[ascending,aaA]at h;obtain⟨a,b⟩:=AH h.2;exact aaZ.2 ⟨b,a⟩
theorem AI{f:aU}(h:valid f=true): ∀s∈f.steps,Gy s.next:=by intro s hs;simp only[valid,aaA]at h;have hr:=aa2.1 h.1.2 s hs;simp only[bO,aaA]at hr;exact PJ hr.1.1.1.2
theorem C6: ∀(xs m:List Int),m.Nodup→(xs.foldl (fun m n=>qk n m) m).Nodup∧ ∀x,x∈xs.foldl (fun m n=>qk n m) m↔x∈xs∨x∈m
 |[],m,h=>⟨h,fun x=>⟨.inr,fun h=>h.elim (fun h=>absurd h abi) id⟩⟩
 |n::xs,m,h=>by
  have h1:(qk n m).Nodup∧ ∀x,x∈qk n m↔x=n∨x∈m:=by
   unfold qk;split
   ·rename_i hn;exact⟨h,fun x=>⟨.inr,fun e=>e.elim (fun e=>e▸hn) id⟩⟩
   rename_i hn;refine⟨acp.2 ⟨h,by simp,fun x hx y hy e=>?_⟩,fun x=>?_⟩
   ·obtain rfl:=aaL.1 hy;subst e;exact hn hx
   rw[aaJ,aaL];exact⟨fun h=>h.symm,fun h=>h.symm⟩
  obtain⟨a,b⟩:=C6 xs (qk n m) h1.1;refine⟨a,fun x=>?_⟩;rw[abT,b,h1.2,aav];constructor
  ·rintro(h|h|h)
   ·exact .inl (.inr h)
   ·exact .inl (.inl h)
   exact .inr h
  rintro((h|h)|h)
  ·exact .inr (.inl h)
  ·exact .inl h
  exact .inr (.inr h)
theorem HI(xs:List Int):jI (xs.foldl (fun m n=>qk n m) [])=xs.foldl km []:=by obtain⟨a,b⟩:=C6 xs [] List.nodup_nil;obtain⟨c,d⟩:=yh xs [] List.Pairwise.nil;have hn:(jI (xs.foldl (fun m n=>qk n m) [])).Nodup:=(acM _ _).nodup_iff.2 a;refine ye ((List.Pairwise.and (yf _) hn).imp fun {x y} h=>by have:=h.1;have:=h.2;omega) c fun x=>?_;rw[yg,b,d]
def wE(b:ft)(a:gW)(x:bc):Bool:=oi b x a&& !AJ b x a.time
theorem E_(b:ft)(a:gW):qB b a=((b.holds.filter (wE b a)).map (·.idn)).foldl km []:=by
 have key: ∀(l:List bc) (m:List Int),(l.filter fun f=>f.kind==7).foldl (nT b a) m=((l.filter (wE b a)).map (·.idn)).foldl (fun m n=>qk n m) m:=by
  intro l
  induction l with
  |nil=>intro m;rfl
  |cons x l ih=>
   intro m;cases hk:x.kind==7 with
   |true=>
    rw[ac2 (by simpa using hk),abT,ih];cases hc:wE b a x with
    |true=>
     rw[ac2 hc,aa8,abT];have e:nT b a m x=qk x.idn m:=if_pos hc;rw[e]
    |false=>
     rw[acS (by simp[hc])];have e:nT b a m x=m:=if_neg (by have:=hc;unfold wE at this;rw[this];simp);rw[e]
   |false=>
    have hc:wE b a x=false:=by unfold wE oi vu vv;rw[hk];rfl
    rw[acS (by simp[hk]),acS (by simp[hc]),ih]
 rw[←HI];unfold qB Jr vw;rw[key]
theorem Fa(b:ft):qC b=((b.procs.filter (qD b)).map (·.idn)).foldl km []:=BQ _
theorem rE{c n:Int}(h:jJ c):sq ⟨c,0,n⟩=(c==0||c==n):=by
 unfold jJ at h;unfold sq;show(c==0||(decide (n≤c)&&(IntKind.i64.wrap (c-0)==n)))=_;rw[Int.sub_zero,wr h.1 h.2];by_cases e:c=n
 ·rw[e,decide_eq_true (Int.le_refl n)];rfl
 rw[beq_eq_false_iff_ne.2 e,aci]
theorem vx{c n:Int}(h:jJ c):sq ⟨c,1,n⟩=(c==0||(decide (n<c)&&(IntKind.i64.wrap (c-1)==n))):=by
 unfold jJ at h;unfold sq;show(c==0||(decide (n≤c)&&(IntKind.i64.wrap (c-1)==n)))=_;by_cases e:n<c
 ·rw[decide_eq_true e,decide_eq_true (Int.le_of_lt e)]
 rw[decide_eq_false e];by_cases e2:n≤c
 ·have:(IntKind.i64.wrap (c-1)==n)=false:=by
   obtain rfl:n=c:=by omega
   rw[beq_eq_false_iff_ne];by_cases h0: -9223372036854775808<n
   ·rw[wq];omega
   obtain rfl:n= -9223372036854775808:=by omega
   decide+kernel
  rw[this];simp
 rw[decide_eq_false e2]
set_option maxHeartbeats 2000000
theorem C7(n:Int)(g:G):cN prog 90 #[vI n] g fun _ r=>r= .bool (jH n):=by
 have hs:=St.start g;refine enter func90 rfl ntmps90 rfl<|aD rfl<|ck 3 rfl ?_;unfold jH;cases decide (1≤n)with
 |true=>
  exact aF rfl<|au (cg rfl hs rfl)
 |false=>
  exact aF rfl<|au (cg rfl hs rfl)
theorem Js(x y:bc)(g:G):cN prog 173 #[fv x,fv y] g fun _ r=>r= .bool (kl lI x y):=by
 have hs:=St.start g;refine enter func173 rfl ntmps173 rfl<|cO<|gF hs rfl fun b2 g2 hs ag aq=>gF hs rfl fun b3 g2 hs ag aB=>?_;replace aq:=aq.mono ag;refine aF rfl<|ak<|pW [.z aq,.z aB] rfl ?_;unfold kl lI;by_cases e:x.time=y.time
 ·exact bg (b:=x.time !=y.time) (by simp[e]) rfl<|ar<|ai<|pW [.z aq,.z aB] rfl<|au (cg rfl hs (congrArg Value.bool (by simp[e])))
 exact aG (b:=x.time !=y.time) (by simp[e]) rfl<|pW [.z aq,.z aB] rfl<|au (cg rfl hs (congrArg Value.bool (by simp[e])))
theorem Jt(v:Value)(l:List bc)(g:G)(aA:Rs g v l)(hl:l.length≤1000000):cN prog 91 #[v] g fun g' r=>Rs g' r (dI lI l):=by
 have hs:=St.start g;have aj:=G.le.refl g;obtain⟨a,c,rfl⟩:=aA.isSlice;refine enter func91 rfl ntmps91 rfl<|aD rfl<|aD rfl<|ak<|aD rfl<|aw ?_
 refine aZ (fun m a' w=> ∃(i:Nat) (v3:Value) (g':G),w=g'.w∧St g g' []∧G.le g g'∧Rs g' (.slice a l.length c) l∧Rs g' v3 (dI lI (l.take i))∧i≤l.length∧m=l.length-i∧
   Fr 49 [] [(0,.slice a l.length c),(3,v3),(4,vI (i:Nat))] a') l.length
  (fun a' ha=>⟨0,_,_,rfl,hs,aj,aA,Rs.nil _,aar _,rfl,ha.kp rfl⟩) ?_
 (repeat clear hs);(repeat clear aj);(repeat clear aA);rintro m a' _ ⟨i,v3,g',rfl,hs,aj,aA,aE,hi,rfl,dT⟩;obtain⟨a3,c3,rfl⟩:=aE.isSlice;have Zy:(dI lI (l.take i)).length=i:=by rw[gh,aat];omega
 obtain⟨S,hS⟩: ∃S,dI lI (l.take i)=S:=⟨_,rfl⟩;rw[hS]at aE Zy dT;revert a';refine bT<|ak<|aD rfl ?_;by_cases aV:i<l.length
 ·refine aG (b:=decide ((i:Int)<(l.length:Int))) (decide_eq_true (by omega)) rfl ?_;have ed:l.take (i+1)=l.take i++[l[i]]:=by rw[aaV,aas aV];rfl
  obtain⟨b0,p0,ys,rfl,aq,hx⟩:=aA.at (i:=i) (aas aV);have eI:dq l (i:Int)=some l[i]:=bM rfl aV;generalize l[i]=x at*;obtain rfl:ys=bK x:=hx;refine ar<|ai<|ak<|aw<|aD rfl<|ak<|aw ?_;refine Fb (fun a' w=> ∃(k:Nat) (g2:G),w=g2.w∧St g g2 []∧G.le g g2∧Rs g2 (.slice (some ⟨b0,p0,none⟩) l.length c) l∧Rs g2 (.slice a3 S.length c3) S∧k≤S.length∧dI lI (l.take (i+1))=S.take k++x::S.drop k∧
    Fr 49 [] [(0,.slice (some ⟨b0,p0,none⟩) l.length c),(3,.slice a3 S.length c3),(4,vI (i:Nat)),(5,vI (k:Nat))] a') ?_ ?_
  ·refine aZ (fun m a' w=> ∃(k:Nat) (g2:G),w=g2.w∧St g g2 []∧G.le g g2∧Rs g2 (.slice (some ⟨b0,p0,none⟩) l.length c) l∧Rs g2 (.slice a3 S.length c3) S∧EP g2 b0 (p0+i*19) (bK x)∧k≤S.length∧(∀j (h:j<S.length),k≤j→kl lI x S[j]=true)∧m=0+k∧
     Fr 49 [] [(0,.slice (some ⟨b0,p0,none⟩) l.length c),(3,.slice a3 S.length c3),(4,vI (i:Nat)),(5,vI (k:Nat))] a') (0+S.length)
    (fun a' ha=>⟨S.length,g',rfl,hs,aj,aA,aE,aq,aaz _,fun j h hj=>absurd hj (by omega),rfl,ha.kp rfl⟩) ?_
   (repeat clear hs);(repeat clear aj);(repeat clear aA);(repeat clear aE);(repeat clear aq);rintro m a' _ ⟨k,g2,rfl,hs,aj,aA,aE,aq,hk,dt,rfl,dT⟩;revert a';refine bT<|ak<|ak ?_
   have fin:(∀j (h:j<S.length),j+1=k→kl lI x S[j]=false)→dI lI (l.take (i+1))=S.take k++x::S.drop k:=fun h2=>by rw[ed];exact Jn hS hk dt h2
   cases k with
   |zero=>
    apply aO hs (cV (gR (eA []))) 14 [(13,28)] (by kernel_rfl) rfl
    ·exact mX [[],[0],[1],[2],[2],[3,4,2],[5,2],[2],[2],[8,2],[7,9,2],[10,2],[6,11,2,2],[2,12]] [] hs rfl
    (repeat clear hs);intro g6 hs ag;obtain⟨aj,aq,aA,aE⟩:=dU ag aj aq aA aE;exact bE<|bI rfl<|aJ<|aM<|aM<|b_<|fun a ha=>k_ ⟨0,_,rfl,hs,aj,aA,aE,aar _,fin fun j h e=>by omega,ha.kp rfl⟩
   |succ k=>
    obtain⟨b3,p3,ys,rfl,aB,hx⟩:=aE.at (i:=k) (aas (by omega));have PK: ∀j (h:j<S.length),j=k→S[j]=S[k]:=fun j h e=>by subst e;rfl
    generalize S[k]=y at*;obtain rfl:ys=bK y:=hx;apply dP (fe (.e (.bool true)::gR (eA (fe (.e (vI (k:Nat))::eA (.e (.bool (kl lI x y))::fe [])))))) 14 [(13,28)] (by kernel_rfl)
    ·exact cY [[]] [] hs rfl<|aW [(0,15)] (fun gd hf=>cj rfl (bj rfl (congrArg Value.bool (decide_eq_true (by omega)))))<|cY [[1],[2],[2]] [] hs rfl<|aW [(3,18),(4,19),(2,17)] (fun gd hf=>dD rfl (ay rfl (ff T.ok rfl rfl rfl (by omega) aV rfl rfl rfl (cC rfl))))<|cY [[5,2],[2],[2]] [.e aq 0] hs rfl<|aW [(8,23),(2,17)] (fun gd hf=>bN rfl (bj rfl (congrArg (Value.int .i64) (by rw[wq];omega))))<|aW [(7,22),(9,24),(2,17)] (fun gd hf=>dD rfl (ay rfl (ff T.ok rfl rfl rfl (by omega) hk rfl rfl rfl (cC rfl))))<|mX [[10,2],[6,11,2,2],[2,12]] [.e aB 0,.c (cB 173) fun g' _=>Js x y g'] hs rfl
    intro g6 aH;refine cj rfl ?_;have ag:=(G.a_ _).trans aH.le;have hs:=hs.dr.call aH;obtain⟨aj,aq,aB,aA,aE⟩:=mY ag aj aq aB aA aE;apply bE;cases hb:kl lI x y with
    |true=>
     refine bZ rfl<|ar<|ai<|aw<|ah<|Wp 3 rfl<|an<|aX<|fun a ha=>⟨0+k,by omega,k,_,rfl,hs,aj,aA,aE,aq,by omega,fun j h hj=>?_,rfl,ha.keep ⟨rfl,rfl,rfl,kW rfl,trivial⟩⟩
     by_cases e:j=k
     ·rw[PK j h e];exact hb
     exact dt j h (by omega)
    |false=>
     exact bI rfl<|aJ<|aM<|aM<|b_<|fun a ha=>k_ ⟨k+1,_,rfl,hs,aj,aA,aE,hk,fin fun j h e=>by rw[PK j h (by omega)];exact hb,ha.kp rfl⟩
  (repeat clear hs);(repeat clear aj);(repeat clear aA);(repeat clear aE);(repeat clear aq);rintro a' _ ⟨k,g2,rfl,hs,aj,aA,aE,hk,dj,dT⟩;replace hs:=hs.eM 50 19 none;revert a';refine bT<|aD rfl<|ck 3 rfl<|aN rfl rfl<|iA T.ok rfl rfl rfl rfl rfl (a:=0) (b:=k) rfl ⟨_,rfl⟩ (by omega) (by have:=aE.mL;omega) ?_;have bV:=aE.cut (a:=0) (b:=k) (by omega) hk;obtain⟨_,news,HJ,nU⟩:=Src.jh bV;obtain rfl:=lf HJ;have hX:(S.take k).length=k:=by rw[aat];omega
  have hY:(S.drop k).length=S.length-k:=aaM;rw[show l.take (i+1)=l.take (i+1)from rfl]at dj;obtain⟨X,X6⟩: ∃X,S.take k=X:=⟨_,rfl⟩;have R2:(S.take k).drop 0=X:=X6;rw[X6]at dj hX;rw[R2]at nU;clear bV R2;refine aN rfl rfl<|ba T.ok 0 rfl hs rfl rfl rfl rfl rfl rfl rfl (by decide) rfl nU (oj g _) (by show(0+(k-0))*160≤_;omega) (by show 0+(k-0)≤maxLen;unfold maxLen;omega) ?_;(repeat clear hs);rintro a6 c6 g10 hs ag;obtain⟨aj,aA,aE⟩:=eS ag aj aA aE;have e0:0+(k-0)=(X).length:=by rw[hX]<;>omega
  rw[e0]at hs⊢;replace hs:St g g10 [rF a6 c6 (X)]:=by exact hs
  refine aF rfl<|ck 3 rfl<|fP (y:=x) aA eI rfl ?_;rintro b9 q9 ys aK rfl;have aB:=aK;clear aK;refine dE 1 [.e aB 0] rfl ?_;clear aB;refine iX [(0,fv x)] (fl [x]) hs rfl rfl ?_;(repeat clear hs);rintro bl gl hs ag;obtain⟨aj,aA,aE⟩:=eS ag aj aA aE;refine aN rfl rfl<|ba T.ok 1 rfl hs rfl rfl rfl rfl rfl rfl rfl (by decide) rfl (Src.dZ (hs.own 0 _ rfl).1).2 (oj g _) (by show((X).length+1)*160≤_;omega) (by show(X).length+1≤maxLen;unfold maxLen;omega) ?_;(repeat clear hs);rintro a6 c6 g10 hs ag;obtain⟨aj,aA,aE⟩:=eS ag aj aA aE;have e0:(X).length+1=(X++[x]).length:=by rw[aal,aaF]<;>omega
  rw[e0]at hs⊢;replace hs:St g g10 [rF a6 c6 (X++[x])]:=by unfold rF;rw[jM];exact hs.drop 0
  refine aF rfl<|ah<|Wp 3 rfl<|aN rfl rfl<|iA T.ok rfl rfl rfl rfl rfl (a:=k) (b:=S.length) ⟨_,rfl⟩ rfl (by omega) (by have:=aE.mL;omega) ?_;have bV:=aE.cut (a:=k) (b:=S.length) (by omega) (aaz _);rw[aa_]at bV;obtain⟨_,news,HJ,nU⟩:=Src.jh bV;obtain rfl:=lf HJ;clear bV aE;refine aN rfl rfl<|ba T.ok 0 rfl hs rfl rfl rfl rfl rfl rfl rfl (by decide) rfl nU (oj g _) (by show((X++[x]).length+(S.length-k))*160≤_;omega) (by show(X++[x]).length+(S.length-k)≤maxLen;unfold maxLen;omega) ?_;(repeat clear hs);rintro a6 c6 g10 hs ag;obtain⟨aj,aA⟩:=cA ag aj aA;have e0:(X++[x]).length+(S.length-k)=(X++[x]++S.drop k).length:=by rw[@List.length_append _ (X++[x]),hY]<;>omega
  rw[e0]at hs⊢;replace hs:St g g10 [rF a6 c6 (X++[x]++S.drop k)]:=by unfold rF;rw[jM (X++[x])];exact hs
  obtain⟨gz,gX,dk,iw,aE⟩:=hs.cD (α:=bc) (i:=0) rfl (cR.fl _ _);have ag:=iw;rw[←gX];(repeat clear hs);have hs:St g gz []:=dk;clear dk;obtain⟨aj,aA⟩:=cA ag aj aA;rw[show X++[x]++S.drop k=dI lI (l.take (i+1))from by rw[dj];simp]at aE⊢;exact Wp 1 rfl<|an<|aX<|ai<|ah<|Wp 3 rfl<|an<|fun a ha=>⟨l.length-(i+1),by omega,i+1,_,_,rfl,hs,aj,aA,aE,by omega,rfl,ha.keep ⟨rfl,rfl,kW rfl,trivial⟩⟩
 refine bg (b:=decide ((i:Int)<(l.length:Int))) (decide_eq_false (by omega)) rfl ?_;rw[aaD (by omega)]at hS;exact aJ<|aM<|aM<|b_<|ai<|aD rfl<|au (cg rfl hs (by rw[hS];exact aE))
theorem iY{g:G}{v:Value}{b:ft}(h:gJ g v b): ∃(A:Nat→Option Addr) (N C:Nat→Nat),v= .agg ((List.range 11).map fun i=> .slice (A i) (N i) (C i)).toArray∧ ∀i,i<11→Rs g (.slice (A i) (N i) (C i)) (b.ls i)∧N i=(b.ls i).length:=by
 obtain⟨sl,rfl,ee⟩:=h;have key: ∀i,∃p:Option Addr×Nat×Nat,i<11→sl i= .slice p.1 p.2.1 p.2.2∧p.2.1=(b.ls i).length:=fun i=>by
  by_cases hi:i<11
  ·obtain⟨a,c,e⟩:=(ee i hi).isSlice;exact⟨(a,_,c),fun _=>⟨e,rfl⟩⟩
  exact⟨(none,0,0),fun h=>absurd h hi⟩
 obtain⟨p,hp⟩: ∃p:Nat→Option Addr×Nat×Nat,∀i,i<11→sl i= .slice (p i).1 (p i).2.1 (p i).2.2∧(p i).2.1=(b.ls i).length:=⟨fun i=>(key i).choose,fun i=>(key i).choose_spec⟩;refine⟨fun i=>(p i).1,fun i=>(p i).2.1,fun i=>(p i).2.2,?_,fun i hi=>⟨?_,(hp i hi).2⟩⟩
 ·congr 2;exact acq fun i hi=>(hp i (aa9.1 hi)).1
 have:=ee i hi;rw[(hp i hi).1]at this;exact this
theorem Ju(v:Value)(b:ft)(time:Int)(g:G)(aL:gJ g v b)(hb:xF b):cN prog 172 #[v,vI time] g fun g' r=>Rs g' r (dI lI (b.x7.filter (Gx time))):=by
 have hs:=(St.start g).eM 50 19 none;have aj:=G.le.refl g;have fC:=aL;obtain⟨A,N',C,rfl,ee⟩:=iY aL;have aL:gJ g (.agg ((List.range 11).map fun i=> .slice (A i) (N' i) (C i)).toArray) b:=fC;clear fC;obtain⟨aA,hN⟩:=ee 2 (by decide);have hl:(b.ls 2).length≤1000000:=hb 2;show cN prog 172 _ g fun g' r=>Rs g' r (dI lI ((b.ls 2).filter (Gx time)));clear aL ee;generalize b.ls 2=l at*;refine enter func172 rfl ntmps172 rfl<|cO<|gF hs rfl fun b2 g2 hs ag aq=>?_;obtain⟨aj,aA⟩:=cA ag aj aA;replace hs:St g g2 [rF none 0 []]:=hs;refine aF rfl<|aD rfl<|ak<|aD rfl<|aw ?_
 refine aZ (fun m a' w=> ∃(i:Nat) (ad:Option Addr) (c:Nat) (xs:List bc) (g':G),w=g'.w∧St g g' [rF ad c xs]∧G.le g g'∧Rs g' (.slice (A 2) (N' 2) (C 2)) l∧EP g' b2 0 ((List.range 11).map fun i=> .slice (A i) (N' i) (C i))∧i≤l.length∧(l.take i).filter (Gx time)=xs∧m+i=l.length∧
   Fr 40 [] [(1,vI time),(2,vP b2),(5,.slice ad xs.length c),(6,vI (i:Nat))] a') l.length
  (fun a' ha=>⟨0,none,0,[],_,rfl,hs,aj,aA,aq,aar _,rfl,rfl,ha.kp rfl⟩) ?_
 (repeat clear hs);(repeat clear aj);(repeat clear aA);(repeat clear aq);rintro m a' _ ⟨i,ad,c,xs,g',rfl,hs,aj,aA,aq,hi,mH,hm,dT⟩;have nL:xs.length≤i:=by rw[←mH];exact aaC (abq ..) (by rw[aat];omega)
 revert a';refine bT<|ak<|pW [.z aq] rfl ?_;by_cases aV:i<l.length
 ·refine aG (b:=decide ((i:Int)<(N' 2:Int))) (decide_eq_true (by omega)) rfl ?_;have eI:dq l (i:Int)=some l[i]:=bM rfl aV;have ed:(l.take (i+1)).filter (Gx time)=xs++(if Gx time l[i]then [l[i]]else []):=by rw[aaV,aas aV,abe,mH,acd,abU];split<;>simp[*]
  generalize l[i]=x at*;have Uv:Gx time x=((jH x.waf&&jH x.oth)&&decide (x.time≤time)):=rfl;refine ar<|ai<|ak<|aw<|eO 3 [.z aq] rfl<|fP (y:=x) aA eI rfl ?_;rintro b9 q9 ys aK rfl;have aB:=aK;clear aK;refine dE 1 [.e aB 0] rfl<|fA hs rfl fun b7 g1 hs ag=>?_;obtain⟨aj,aq,aB,aA⟩:=dU ag aj aq aB aA;refine om 0 hs rfl fun g2 hs ag aK=>?_;obtain⟨aj,aq,aB,aA⟩:=dU ag aj aq aB aA;clear aB;have aB:=aK;clear aK;replace hs:St g _ [rF ad c xs]:=hs;refine bE<|eO 2 [.z aB] rfl<|d_ rfl (C7 x.waf _) ?_;rintro g1 _ aH rfl;replace hs:=hs.call aH;have ag:=aH.le;obtain⟨aj,aq,aB,aA⟩:=dU ag aj aq aB aA;clear aH;cases h1:jH x.waf with
  |false=>
   exact aF rfl<|bI rfl<|ar<|aX<|ai<|ah<|Wp 3 rfl<|an<|fun a ha=>⟨m-1,by omega,i+1,ad,c,xs,_,rfl,hs,aj,aA,aq,by omega,by rw[ed,Uv,h1];simp,by omega,ha.keep ⟨rfl,rfl,rfl,kW rfl,trivial⟩⟩
  |true=>
   refine dE 3 [.z aB] rfl<|d_ rfl (C7 x.oth _) ?_;rintro g1 _ aH rfl;replace hs:=hs.call aH;have ag:=aH.le;obtain⟨aj,aq,aB,aA⟩:=dU ag aj aq aB aA;clear aH;cases h2:jH x.oth with
   |false=>
    exact aF rfl<|bI rfl<|ar<|aX<|ai<|ah<|Wp 3 rfl<|an<|fun a ha=>⟨m-1,by omega,i+1,ad,c,xs,_,rfl,hs,aj,aA,aq,by omega,by rw[ed,Uv,h1,h2];simp,by omega,ha.keep ⟨rfl,rfl,rfl,kW rfl,trivial⟩⟩
   |true=>
    refine BS [.z aB] rfl ?_;cases h3:decide (x.time≤time)with
    |false=>
     exact bI rfl<|ar<|aX<|ai<|ah<|Wp 3 rfl<|an<|fun a ha=>⟨m-1,by omega,i+1,ad,c,xs,_,rfl,hs,aj,aA,aq,by omega,by rw[ed,Uv,h1,h2,h3];simp,by omega,ha.keep ⟨rfl,rfl,rfl,kW rfl,trivial⟩⟩
    |true=>
     refine bZ rfl ?_;rw[Uv,h1,h2,h3]at ed;refine ah<|dE 2 [.z aB] rfl<|iX [(0,fv x)] (fl [x]) hs rfl rfl ?_;(repeat clear hs);rintro bl gl hs ag;obtain⟨aj,aq,aA⟩:=eS ag aj aq aA;refine aN rfl rfl<|ba T.ok 1 rfl hs rfl rfl rfl rfl rfl rfl rfl (by decide) rfl (Src.dZ (hs.own 0 _ rfl).1).2 (oj g _) (by show((xs).length+1)*160≤_;omega) (by show(xs).length+1≤maxLen;unfold maxLen;omega) ?_;(repeat clear hs);rintro a6 c6 g10 hs ag;obtain⟨aj,aq,aA⟩:=eS ag aj aq aA;have e0:(xs).length+1=(xs++[x]).length:=by rw[aal,aaF]<;>omega
     rw[e0]at hs⊢;replace hs:St g g10 [rF a6 c6 (xs++[x])]:=by unfold rF;rw[jM];exact hs.drop 0
     exact Wp 1 rfl<|an<|aX<|ai<|ah<|Wp 3 rfl<|an<|fun a ha=>⟨m-1,by omega,i+1,_,_,_,_,rfl,hs,aj,aA,aq,by omega,ed,by omega,ha.keep ⟨rfl,rfl,rfl,kW rfl,trivial⟩⟩
 refine bg (b:=decide ((i:Int)<(N' 2:Int))) (decide_eq_false (by omega)) rfl ?_;rw[aaD (by omega)]at mH;refine aJ<|aM<|aM<|b_<|ai<|ck 1 rfl ?_;obtain⟨gz,gX,dk,iw,bV⟩:=hs.cD (α:=bc) (i:=0) rfl (cR.fl _ _);have ag:=iw;rw[←gX];(repeat clear hs);have hs:St g gz []:=dk;clear dk;refine d_ rfl (Jt _ xs _ bV (by omega)) fun g1 _ aH cU=>?_;replace hs:=hs.call aH;have ag:=aH.le;clear aH;exact aF rfl<|au (cg rfl hs (by rw[mH];exact cU))
theorem Jv(v:Value)(b:ft)(mark time:Int)(g:G)(aL:gJ g v b)(hb:xF b):cN prog 89 #[v,vI mark,vI time] g fun _ r=>r=vI (qj b mark time):=by
 have hs:=St.start g;have aj:=G.le.refl g;have fC:=aL;obtain⟨A,N',C,rfl,ee⟩:=iY aL;have aL:gJ g (.agg ((List.range 11).map fun i=> .slice (A i) (N' i) (C i)).toArray) b:=fC;clear fC;clear ee;refine enter func89 rfl ntmps89 rfl<|cO<|gF hs rfl fun b2 g2 hs ag aq=>?_;obtain⟨aj,aL⟩:=cA ag aj aL;replace hs:St g g2 []:=hs;refine aF rfl<|ak<|ck 1 rfl<|d_ rfl (C7 mark _) ?_;rintro g1 _ aH rfl;replace hs:=hs.call aH;have ag:=aH.le;obtain⟨aj,aq,aL⟩:=eS ag aj aq aL;clear aH;cases h1:jH mark with
 |false=>
  exact aF rfl<|bZ rfl<|aD rfl<|au (cg rfl hs (by unfold qj;rw[h1];rfl))
 |true=>
  refine aF rfl<|bI rfl<|ar<|ai<|eO 2 [.z aq] rfl<|d_ rfl (Ju _ b time _ aL hb) fun g1 _ aH bV=>?_;replace hs:=hs.call aH;have ag:=aH.le;replace aj:=G.le.trans aj ag;clear aH;rw[HH b mark time h1];have hl:(dI lI (b.x7.filter (Gx time))).length≤1000000:=by rw[gh];exact aaC (abq ..) (hb 2)
  generalize dI lI (b.x7.filter (Gx time))=l at*;obtain⟨a,c,rfl⟩:=bV.isSlice;clear aq aL;refine aF rfl<|ak<|aD rfl<|aw ?_
  refine aZ (fun m a' w=> ∃(cur:Int) (g':G),w=g'.w∧St g g' []∧G.le g g'∧Rs g' (.slice a l.length c) l∧m≤l.length∧(l.take m).foldr xi cur=l.foldr xi mark∧True∧
    Fr 47 [] [(1,vI cur),(7,.slice a l.length c),(8,vI ((m:Int)-1))] a') l.length
   (fun a' ha=>⟨mark,_,rfl,hs,aj,bV,aaz _,by rw[aa_],trivial,ha.keep ⟨rfl,rfl,kI rfl (by rw[wq]),trivial⟩⟩) ?_
  (repeat clear hs);(repeat clear aj);(repeat clear bV);rintro m a' _ ⟨cur,g',rfl,hs,aj,bV,hi,mH,_,dT⟩;revert a';refine bT<|ak<|aD rfl ?_;cases m with
  |zero=>
   exact bg (b:=decide ((0:Int)≤((0:Nat):Int)-1)) rfl rfl<|aJ<|aM<|aM<|b_<|ai<|aD rfl<|au (cg rfl hs (congrArg (Value.int .i64) mH))
  |succ j=>
   refine aG (b:=decide ((0:Int)≤((j+1:Nat):Int)-1)) (decide_eq_true (by omega)) rfl ?_;have aV:j<l.length:=by omega
   have eI:dq l (((j+1:Nat):Int)-1)=some l[j]:=bM (by omega) aV;have BT:(l.take (j+1)).foldr xi cur=(l.take j).foldr xi (xi l[j] cur):=by rw[aaV,aas aV,List.foldr_append];rfl
   generalize l[j]=x at*;refine ar<|ai<|ak<|aw<|ck 3 rfl<|fP (y:=x) bV eI rfl ?_;rintro b9 q9 ys aK rfl;refine Wp 1 rfl<|dE 1 [.e aK 7] rfl<|aF rfl ?_;by_cases e1:cur=x.waf
   ·refine aG (b:=cur==x.waf) (by simp[e1]) rfl<|ah<|Wp 2 rfl<|fP (y:=x) bV eI rfl ?_;rintro b9 q9 ys aK rfl;exact Wp 1 rfl<|dE 1 [.e aK 8] rfl<|Wp 1 rfl<|an<|aX<|ai<|ah<|Wp 3 rfl<|an<|fun a ha=>⟨j,by omega,x.oth,_,rfl,hs,aj,bV,by omega,by rw[←mH,BT,show xi x cur=x.oth from if_pos e1],trivial,ha.keep ⟨rfl,rfl,kW rfl,trivial⟩⟩
   refine bg (b:=cur==x.waf) (by simp[e1]) rfl<|ck 3 rfl<|fP (y:=x) bV eI rfl ?_;rintro b9 q9 ys aK rfl;refine Wp 1 rfl<|dE 1 [.e aK 8] rfl<|aF rfl ?_;by_cases e2:cur=x.oth
   ·refine aG (b:=cur==x.oth) (by simp[e2]) rfl<|ah<|Wp 2 rfl<|fP (y:=x) bV eI rfl ?_;rintro b9 q9 ys aK rfl;exact Wp 1 rfl<|dE 1 [.e aK 7] rfl<|Wp 1 rfl<|an<|aX<|ai<|ah<|Wp 3 rfl<|an<|fun a ha=>⟨j,by omega,x.waf,_,rfl,hs,aj,bV,by omega,by rw[←mH,BT,show xi x cur=x.waf from(if_neg e1).trans (if_pos e2)],trivial,ha.keep ⟨rfl,rfl,kW rfl,trivial⟩⟩
   exact bg (b:=cur==x.oth) (by simp[e2]) rfl<|ar<|aX<|ai<|ah<|Wp 3 rfl<|an<|fun a ha=>⟨j,by omega,cur,_,rfl,hs,aj,bV,by omega,by rw[←mH,BT,show xi x cur=cur from(if_neg e1).trans (if_neg e2)],trivial,ha.keep ⟨rfl,rfl,kW rfl,trivial⟩⟩
theorem GA(v:Value)(b:ft)(w:Int)(g:G)(aL:gJ g v b)(hb:xF b):cN prog 38 #[v,vI w] g fun g' r=>Rs g' r (mO b w):=by
 have hs:=(St.start g).eM 50 19 none;have aj:=G.le.refl g;have fC:=aL;obtain⟨A,N',C,rfl,ee⟩:=iY aL;have aL:gJ g (.agg ((List.range 11).map fun i=> .slice (A i) (N' i) (C i)).toArray) b:=fC;clear fC;obtain⟨aA,hN⟩:=ee 0 (by decide);have hl:(b.ls 0).length≤1000000:=hb 0;clear ee;refine enter func38 rfl ntmps38 rfl<|cO<|gF hs rfl fun b2 g2 hs ag aq=>?_;obtain⟨aj,aA,aL⟩:=eS ag aj aA aL;replace hs:St g g2 [rF none 0 []]:=hs;refine aF rfl<|ak<|ck 1 rfl<|d_ rfl (C7 w _) ?_;rintro g1 _ aH rfl;replace hs:=hs.call aH;have ag:=aH.le;obtain⟨aj,aq,aA,aL⟩:=dU ag aj aq aA aL;clear aH;cases h1:jH w with
 |false=>
  exact aF rfl<|bZ rfl<|aD rfl<|au (cg rfl hs (by unfold mO;rw[h1];exact Rs.nil _))
 |true=>
  refine aF rfl<|bI rfl ?_;have X7:mO b w=dI lI ((b.ls 0).filter fun f=>qj b f.waf f.time==w):=by unfold mO;rw[h1];rfl
  rw[X7];clear X7;generalize xm:b.ls 0=l at*;refine ar<|ai<|aD rfl<|ak<|aD rfl<|aw ?_
  refine aZ (fun m a' u=> ∃(i:Nat) (ad:Option Addr) (c:Nat) (xs:List bc) (g':G),u=g'.w∧St g g' [rF ad c xs]∧G.le g g'∧Rs g' (.slice (A 0) (N' 0) (C 0)) l∧EP g' b2 0 ((List.range 11).map fun i=> .slice (A i) (N' i) (C i))∧gJ g' (.agg ((List.range 11).map fun i=> .slice (A i) (N' i) (C i)).toArray) b∧i≤l.length∧((l.take i).filter fun f=>qj b f.waf f.time==w)=xs∧m+i=l.length∧
    Fr 37 [] [(1,vI w),(2,vP b2),(5,.slice ad xs.length c),(6,vI (i:Nat))] a') l.length
   (fun a' ha=>⟨0,none,0,[],_,rfl,hs,aj,aA,aq,aL,aar _,rfl,rfl,ha.kp rfl⟩) ?_
  (repeat clear hs);(repeat clear aj);(repeat clear aA);(repeat clear aq);(repeat clear aL);rintro m a' _ ⟨i,ad,c,xs,g',rfl,hs,aj,aA,aq,aL,hi,mH,hm,dT⟩;have nL:xs.length≤i:=by rw[←mH];exact aaC (abq ..) (by rw[aat];omega)
  revert a';refine bT<|ak<|pW [.z aq] rfl ?_;by_cases aV:i<l.length
  ·refine aG (b:=decide ((i:Int)<(N' 0:Int))) (decide_eq_true (by omega)) rfl ?_;have eI:dq l (i:Int)=some l[i]:=bM rfl aV;have ed:((l.take (i+1)).filter fun f=>qj b f.waf f.time==w)=xs++(if qj b l[i].waf l[i].time==w then [l[i]]else []):=by rw[aaV,aas aV,abe,mH,acd,abU];split<;>simp[*]
   generalize l[i]=x at*;refine ar<|ai<|ak<|aw<|eO 3 [.z aq] rfl<|fP (y:=x) aA eI rfl ?_;rintro b9 q9 ys aK rfl;have aB:=aK;clear aK;refine dE 1 [.e aB 0] rfl<|fA hs rfl fun b7 g1 hs ag=>?_;obtain⟨aj,aq,aB,aA,aL⟩:=mY ag aj aq aB aA aL;refine om 0 hs rfl fun g2 hs ag aK=>?_;obtain⟨aj,aq,aB,aA,aL⟩:=mY ag aj aq aB aA aL;clear aB;have aB:=aK;clear aK;replace hs:St g _ [rF ad c xs]:=hs;refine bE<|eO 5 [.z aq,.z aB,.z aB] rfl<|d_ rfl (Jv _ b x.waf x.time _ aL hb) ?_;rintro g1 _ aH rfl;replace hs:=hs.call aH;have ag:=aH.le;obtain⟨aj,aq,aB,aA,aL⟩:=mY ag aj aq aB aA aL;clear aH;refine aF rfl ?_;cases h2:qj b x.waf x.time==w with
   |false=>
    exact bI rfl<|ar<|aX<|ai<|ah<|Wp 3 rfl<|an<|fun a ha=>⟨m-1,by omega,i+1,ad,c,xs,_,rfl,hs,aj,aA,aq,aL,by omega,by rw[ed,h2];simp,by omega,ha.keep ⟨rfl,rfl,rfl,kW rfl,trivial⟩⟩
   |true=>
    refine bZ rfl ?_;rw[h2]at ed;refine ah<|dE 2 [.z aB] rfl<|iX [(0,fv x)] (fl [x]) hs rfl rfl ?_;(repeat clear hs);rintro bl gl hs ag;obtain⟨aj,aq,aA,aL⟩:=dU ag aj aq aA aL;refine aN rfl rfl<|ba T.ok 1 rfl hs rfl rfl rfl rfl rfl rfl rfl (by decide) rfl (Src.dZ (hs.own 0 _ rfl).1).2 (oj g _) (by show((xs).length+1)*160≤_;omega) (by show(xs).length+1≤maxLen;unfold maxLen;omega) ?_;(repeat clear hs);rintro a6 c6 g10 hs ag;obtain⟨aj,aq,aA,aL⟩:=dU ag aj aq aA aL;have e0:(xs).length+1=(xs++[x]).length:=by rw[aal,aaF]<;>omega
    rw[e0]at hs⊢;replace hs:St g g10 [rF a6 c6 (xs++[x])]:=by unfold rF;rw[jM];exact hs.drop 0
    exact Wp 1 rfl<|an<|aX<|ai<|ah<|Wp 3 rfl<|an<|fun a ha=>⟨m-1,by omega,i+1,_,_,_,_,rfl,hs,aj,aA,aq,aL,by omega,ed,by omega,ha.keep ⟨rfl,rfl,rfl,kW rfl,trivial⟩⟩
  refine bg (b:=decide ((i:Int)<(N' 0:Int))) (decide_eq_false (by omega)) rfl ?_;rw[aaD (by omega)]at mH;refine aJ<|aM<|aM<|b_<|ai<|ck 1 rfl ?_;obtain⟨gz,gX,dk,iw,bV⟩:=hs.cD (α:=bc) (i:=0) rfl (cR.fl _ _);have ag:=iw;rw[←gX];(repeat clear hs);have hs:St g gz []:=dk;clear dk;refine d_ rfl (Jt _ xs _ bV (by omega)) fun g1 _ aH cU=>?_;replace hs:=hs.call aH;have ag:=aH.le;clear aH;exact aF rfl<|au (cg rfl hs (by rw[mH];exact cU))
end Go.Proofs.YtkpojaffabjibaaGreatDoor

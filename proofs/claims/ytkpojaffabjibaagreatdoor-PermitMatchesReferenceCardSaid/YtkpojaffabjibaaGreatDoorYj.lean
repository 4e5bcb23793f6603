/- Parts of the proof, from: Reaching: what the search marks, in plain Lean: no program here. -/
import Derived.Test.YtkpojaffabjibaaGreatDoorYi
namespace Go.Proofs.YtkpojaffabjibaaGreatDoor
open Go.K
def dh(o:List Bool)(m:Int):Prop:=o.getD m.toNat false=true
def ib(f:aU)(m:Int):Prop:=0≤m∧m<f.steps.length
inductive Dd(f:aU):Int→Int→Prop where
 |refl (a:Int):Dd f a a
 |step {a b c:Int}:Dd f a b→c∈eU (aY f b)→Dd f a c
theorem Dd.trans{f:aU}{a b c:Int}(h:Dd f a b)(r:Dd f b c):Dd f a c:=by
 induction r with
 |refl=>exact h
 |step _ h2 ih=>exact .step ih h2
theorem Dd.head{f:aU}{a b c:Int}(h:b∈eU (aY f a))(r:Dd f b c):Dd f a c:=Dd.trans (.step (.refl a) h) r
theorem Dd.Vr{f:aU}(cE:valid f=true){a b:Int}(h:Dd f a b)(ha:ib f a):ib f b:=by
 induction h with
 |refl=>exact ha
 |step _ h2 ih=>exact iz cE ih.1 ih.2 _ h2
theorem wg{f:aU}{o:List Bool}(hl:o.length=f.steps.length){m:Int}(hm:ib f m)(b:Bool):o.getD m.toNat b=true↔dh o m:=by
 unfold dh;have:m.toNat<o.length:=by have:=hm.1;have:=hm.2;omega
 simp[aas this]
theorem jj{f:aU}{o:List Bool}(hl:o.length=f.steps.length){n m:Int}(hn:ib f n)(hm:ib f m):dh (o.set n.toNat true) m↔m=n∨dh o m:=by
 unfold dh;have h1:m.toNat<o.length:=by have:=hm.1;have:=hm.2;omega
 simp only[aaP,abG];by_cases h:n.toNat=m.toNat
 ·have IA:m=n:=by have:=hm.1;have:=hn.1;omega
  subst IA;simp[h1]
 have IA:m≠n:=fun e=>h (by rw[e]);simp[h,IA]
structure Xd(f:aU)(src:Int→Prop)(o o':List Bool):Prop where
 len:o'.length=o.length
 mono: ∀m,ib f m→dh o m→dh o' m
 fresh: ∀m,ib f m→dh o' m→ ¬dh o m→(∃b,src b∧Dd f b m)∧ ∀c∈eU (aY f m),dh o' c
theorem CG(f:aU)(cE:valid f=true)(k:Nat)
  (ih: ∀out n,out.length=f.steps.length→ib f n→ ¬dh out n→out.count false≤k→Xd f (· =n) out (visit f k out n)∧dh (visit f k out n) n):
  ∀(l:List Int) (o:List Bool),o.length=f.steps.length→(∀m∈l,ib f m)→o.count false≤k→Xd f (· ∈l) o (dH f k o l)∧ ∀m∈l,dh (dH f k o l) m:=by
 intro l
 induction l with
 |nil=>exact fun o _ _ _=>⟨⟨rfl,fun _ _ h=>h,fun m _ h1 h2=>absurd h1 h2⟩,by simp⟩
 |cons b r Y9=>
  intro o hl hr hc;have hb:=hr b (by simp);have Bb:dH f k o (b::r)=dH f k (if o.getD b.toNat true=true then o else visit f k o b) r:=by unfold dH;rw[abT]
  rw[Bb];by_cases hm:o.getD b.toNat true=true
  ·rw[if_pos hm];have Xe:=(wg hl hb true).1 hm;obtain⟨h1,h2⟩:=Y9 o hl (fun m h=>hr m (by simp[h])) hc;refine⟨⟨h1.len,h1.mono,fun m HM h3 h4=>?_⟩,fun m TJ=>?_⟩
   ·obtain⟨⟨s,h5,h6⟩,h7⟩:=h1.fresh m HM h3 h4;exact⟨⟨s,by simp[h5],h6⟩,h7⟩
   rcases aav.1 TJ with rfl|h
   ·exact h1.mono _ hb Xe
   exact h2 m h
  rw[if_neg hm];have Xe: ¬dh o b:=fun h=>hm ((wg hl hb true).2 h);obtain⟨v1,v2⟩:=ih o b hl hb Xe hc;have hk:=n_ f k o b;obtain⟨h1,h2⟩:=Y9 (visit f k o b) (by rw[hk.1,hl]) (fun m h=>hr m (by simp[h])) (aaC hk.2 hc);refine⟨⟨by rw[h1.len,v1.len],fun m HM h=>h1.mono m HM (v1.mono m HM h),fun m HM h3 h4=>?_⟩,fun m TJ=>?_⟩
  ·by_cases h5:dh (visit f k o b) m
   ·obtain⟨⟨s,rfl,h6⟩,h7⟩:=v1.fresh m HM h5 h4;exact⟨⟨s,by simp,h6⟩,fun c Vb=>h1.mono c (iz cE HM.1 HM.2 c Vb) (h7 c Vb)⟩
   obtain⟨⟨s,h6,h7⟩,h8⟩:=h1.fresh m HM h3 h5;exact⟨⟨s,by simp[h6],h7⟩,h8⟩
  rcases aav.1 TJ with rfl|h
  ·exact h1.mono _ hb v2
  exact h2 m h
theorem IB(f:aU)(cE:valid f=true): ∀(k:Nat) (out:List Bool) (n:Int),out.length=f.steps.length→ib f n→ ¬dh out n→out.count false≤k→Xd f (· =n) out (visit f k out n)∧dh (visit f k out n) n:=by
 intro k
 induction k with
 |zero=>
  intro out n hl hn ho hc;exfalso;have aV:n.toNat<out.length:=by have:=hn.1;have:=hn.2;omega
  have:out[n.toNat]=false:=by have h:=ho;unfold dh at h;simp only[aaP,aas aV,ab5]at h;simpa using h
  have:0<out.count false:=adf.2 (aa4.2 ⟨_,aV,this⟩);omega
 |succ k ih=>
  intro out n hl hn ho hc;have aV:n.toNat<out.length:=by have:=hn.1;have:=hn.2;omega
  have hf:out[n.toNat]? =some false:=by have h:=ho;unfold dh at h;simp only[aaP,aas aV,ab5]at h;rw[aas aV];simpa using h
  have oR:=jw hf;rw[tE];have hra:=iz cE hn.1 hn.2;obtain⟨h1,h2⟩:=CG f cE k ih (eU (aY f n)) (out.set n.toNat true) (by simpa using hl) hra (by omega);have TQ:dh (dH f k (out.set n.toNat true) (eU (aY f n))) n:=h1.mono n hn ((jj hl hn hn).2 (.inl rfl));refine⟨⟨by rw[h1.len];simp,fun m hm h=>h1.mono m hm ((jj hl hn hm).2 (.inr h)),fun m hm h3 h4=>?_⟩,TQ⟩;by_cases IA:m=n
  ·subst IA;exact⟨⟨m,rfl,.refl m⟩,h2⟩
  obtain⟨⟨b,h5,h6⟩,h7⟩:=h1.fresh m hm h3 (fun h=>by
   rcases(jj hl hn hm).1 h with h|h
   ·exact IA h
   exact h4 h)
  exact⟨⟨n,rfl,Dd.head h5 h6⟩,h7⟩
theorem ic(n:Nat)(m:Int): ¬dh (List.replicate n false) m:=by unfold dh;rw[aaP,ac3];split<;>simp
theorem qJ(f:aU)(n:Int):(cp f n).length=f.steps.length:=by unfold cp;rw[(n_ f _ _ _).1];simp
theorem De{f:aU}(cE:valid f=true){n m:Int}(hn:ib f n)(hm:ib f m):dh (cp f n) m↔Dd f n m:=by
 obtain⟨h1,h2⟩:=IB f cE f.steps.length (List.replicate f.steps.length false) n (by simp) hn (ic _ _) (by simp);constructor
 ·intro h;obtain⟨⟨b,rfl,h3⟩,_⟩:=h1.fresh m hm h (ic _ _);exact h3
 intro h;clear hm
 induction h with
 |refl=>exact h2
 |step Hi Vc ih=>
  have hb:=Hi.Vr cE hn;exact(h1.fresh _ hb ih (ic _ _)).2 _ Vc
theorem IC{l:List Bool}{j:Nat}{x:Int}:x∈iM j l↔ ∃i:Nat,l[i]? =some true∧x=((j+i:Nat):Int):=by
 induction l generalizing j with
 |nil=>simp[iM]
 |cons b r ih=>
  simp only[iM,aaJ,ih];constructor
  ·rintro(h|⟨i,h1,h2⟩)
   ·cases b with
    |true=>exact⟨0,by simp,by simpa using h⟩
    |false=>simp at h
   exact⟨i+1,by simpa using h1,by rw[h2];congr 1;omega⟩
  rintro⟨i,h1,h2⟩;cases i with
  |zero=>
   left;simp only[abF,aau]at h1;subst h1;simpa using h2
  |succ i=>exact .inr ⟨i,by simpa using h1,by rw[h2];congr 1;omega⟩
theorem yz{l:List Bool}{x:Int}:x∈iM 0 l↔(0≤x∧x<l.length)∧dh l x:=by
 rw[IC];unfold dh;constructor
 ·rintro⟨i,h1,rfl⟩;have:=(aaN.1 h1).1;refine⟨⟨by omega,by omega⟩,?_⟩;rw[aaP];simp[h1]
 rintro⟨⟨h1,h2⟩,h3⟩;refine⟨x.toNat,?_,by omega⟩;have:x.toNat<l.length:=by omega
 rw[aaP,aas this]at h3;rw[aas this];simpa using h3
theorem lX{f:aU}{n:Int}:given f [n]=true↔valid f=true∧ib f n:=by unfold given rS ib;simp
theorem follow_eq{f:aU}{n:Int}(cE:valid f=true)(hn:ib f n):follow f n=eU (aY f n):=by unfold follow;rw[if_pos (lX.2 ⟨cE,hn⟩)]
open Go Tryz
attribute [local irreducible] W WL cQ aP bG aR aQ aS cK ct
set_option maxRecDepth 10000
set_option maxHeartbeats 4000000
def AL(g:G)(v:Value)(p:Int×List Int):Prop:=∃a n c,v= .agg #[vI p.1,.slice a n c]∧Rs g (.slice a n c) p.2
theorem AL.mono{g g':G}{v:Value}{p:Int×List Int}(hle:g.le g')(h:AL g v p):AL g' v p:=by obtain⟨a,n,c,e,h1⟩:=h;exact⟨a,n,c,e,h1.mono hle⟩
def Ba(g:G)(v:Value)(l:List Int):Prop:=(l=[]∧v= .slice none 0 0)∨(l≠[]∧ ∃a c,v= .slice (some a) l.length c∧Rs g v l)
theorem Ba.mono{g g':G}{v:Value}{l:List Int}(h:Ba g v l)(hle:g.le g'):Ba g' v l:=by
 rcases h with h|⟨h1,a,c,h2,h3⟩
 ·exact .inl h
 exact .inr ⟨h1,a,c,h2,h3.mono hle⟩
theorem Ba.of{g:G}{v:Value}{l:List Int}(h:Rs g v l)(h0:l≠[]):Ba g v l:=by
 obtain⟨a,n,c,rfl,rfl,_,h3⟩:=id h;rcases h3 with h3|⟨b,o,cells,rfl,_⟩
 ·exact absurd (aa' h3) h0
 exact .inr ⟨h0,_,_,rfl,h⟩
theorem NJ(v:Value)(f:aU)(g:G)(dx:eQ g v f):
  cN prog 101 #[v] g fun g' r=>AL g' r (check f):=by
 obtain⟨a1,n1,c1,a2,n2,c2,rfl,aA,aE⟩:=id dx;obtain⟨_,_,e⟩:=aA.isSlice;obtain⟨rfl,rfl,rfl⟩:=aaO e;clear e;have hs:=St.start g;have aj:=G.le.refl g;refine enter func101 rfl ntmps101 rfl<|cO<|gF hs rfl fun bf g2 hs ag aq=>?_;obtain⟨aE,dx⟩:=cA ag aE dx;refine fA hs rfl fun br g1 hs ag=>?_;obtain⟨aq,aE,dx⟩:=eS ag aq aE dx;refine bE<|NV<|ak ?_;apply dP (fe (.f (Fact.rs (reach f 0))::(fe (.f (Fact.rs (ends f))::(.f (Fact.rs (reach f 0))::(.f (Fact.rs (ends f))::[])))))) 6 [(4,3),(5,4)] (by kernel_rfl)
 ·refine cY [[]] [.e aq 0] (St.start _) rfl<|aW [(0,14)] (fun gd hf=>?_) ?_
  ·have eR:=(G.a_ _).trans hf.le;refine bU rfl<|az<|ay rfl<|bu (cB 182) bJ rfl rfl rfl rfl rfl (G1 _ f 0 _ (dx.mono eR)) fun g' v h1 h2=>?_
   obtain⟨g2,e1,e2,e3,e4⟩:=(St.start gd).lS h1 h2;exact⟨g2,e1,e2.p9,e4⟩
  refine cY [[]] [.e aq 0] (St.start _) rfl<|aW [(2,16)] (fun gd hf=>?_) ?_
  ·have eR:=(G.a_ _).trans hf.le;refine bU rfl<|az<|ay rfl<|bu (cB 183) bJ rfl rfl rfl rfl rfl (QB _ f _ (dx.mono eR)) fun g' v h1 h2=>?_
   obtain⟨g2,e1,e2,e3,e4⟩:=(St.start gd).lS h1 h2;exact⟨g2,e1,e2.p9,e4⟩
  exact aW [(1,15),(1,15)] (fun gd hf=>aI fun v1 h1=>(aI fun v1 h1=>(az (bj rfl h1))))<|aW [(3,17),(3,17)] (fun gd hf=>aI fun v3 h3=>(aI fun v3 h3=>(az (bj rfl h3))))<|fk
 intro g1 aH;refine aI fun v4 h4=>?_;refine aI fun v5 h5=>?_;apply az;replace hs:=hs.dr.call aH;have ag:=(G.a_ _).trans aH.le;obtain⟨aq,aE,dx⟩:=eS ag aq aE dx;have bB:Rs g1 v4 (reach f 0):=h4;have aT:Rs g1 v5 (ends f):=h5;obtain⟨al,cl,rfl⟩:=bB.isSlice;obtain⟨ae,ce,rfl⟩:=aT.isSlice;have xm:=rK f 0;have VA:(ends f).length≤40:=by unfold ends;exact aaC (abq _ _) xm
 have JO: ∀x∈reach f 0,valid f=true∧ib f x:=fun x hx=>by
  have h1:=kK hx;unfold reach at hx;split at hx
  ·rename_i hg;exact⟨(lX.1 hg).1,h1⟩
  simp at hx
 have VB: ∀x∈ends f,ib f x:=fun x hx=>by unfold ends at hx;exact kK (ab4.1 hx).1
 clear h4 h5;refine bE<|ak<|NW<|ai<|ak<|aD rfl<|aw ?_;have JL:=dx;have nt:=aq;have yA:=bB;have JT:=aT;have iN:=G.le.refl g1
 refine aZ (fun m a' w=> ∃(k:Nat) (g2:G),w=g2.w∧St g g2 [vO br [vI 0,.slice none 0 0] 145]∧G.le g1 g2∧k≤(reach f 0).length∧m=(reach f 0).length-k∧sP f ((reach f 0).drop k)=sP f (reach f 0)∧
   Fr 74 [] [(1,vP bf),(2,vP br),(3,.slice al (reach f 0).length cl),(4,.slice ae (ends f).length ce),(18,.slice al (reach f 0).length cl),(19,vI (reach f 0).length),(20,vI k)] a') (reach f 0).length
  (fun a' ha=>⟨0,g1,rfl,hs,iN,aar _,rfl,by rw[ab'],ha.kp rfl⟩) ?_
 clear hs iN aq aA aE bB aT dx;rintro m a' _ ⟨k,g2,rfl,hs,iN,hk,rfl,dt,dT⟩;have aq:=nt.mono iN;have dx:=JL.mono iN;have bB:=yA.mono iN;have aT:=JT.mono iN;revert a';refine bT<|aD rfl<|ak ?_;by_cases aV:k<(reach f 0).length
 ·refine aG (b:=decide ((k:Int)<((reach f 0).length:Int))) (by simp;omega) rfl ?_;rw[aa7 aV]at dt;unfold sP at dt;rw[List.find?_cons]at dt;obtain⟨cE,mP⟩:=JO _ (aaQ aV);generalize fL:(reach f 0)[k]=n at*;refine ar<|ai<|ak<|aw<|cO<|fP (y:=n) bB (by rw[bM (j:=k) rfl aV,fL]) rfl ?_;rintro b p ys aK rfl;refine dE 1 [.e aK 0] rfl<|aF rfl<|eO 2 [.z aq] rfl<|d_ rfl (vU _ f n _ dx cE mP.1 mP.2) fun g3 v fT eF=>?_;obtain⟨g4,Nd,MJ,Wb,ph⟩:=hs.lS fT eF;have ag:=fT.le.trans Wb;rw[←Nd];replace hs:=MJ;obtain⟨aq,bB,aT,dx⟩:=dU ag aq bB aT dx;replace iN:=iN.trans ag;obtain⟨am,cm,rfl⟩:=ph.isSlice;rw[fb]at ph;rw[fb];refine aF rfl<|ak<|aD rfl<|aw ?_;have Fl:=dx;have py:=aq;have vE:=bB;have JN:=aT;have Wc:=ph;have mQ:=G.le.refl g4
  refine aZ (fun m a' w=> ∃(j:Nat) (g5:G),w=g5.w∧St g g5 [vO br [vI 0,.slice none 0 0] 145]∧G.le g4 g5∧j≤(ends f).length∧m=(ends f).length-j∧alive f n=((ends f).drop j).any (fun e=>(cp f n).getD e.toNat false)∧
    Fr 74 [] [(1,vP bf),(2,vP br),(3,.slice al (reach f 0).length cl),(4,.slice ae (ends f).length ce),(18,.slice al (reach f 0).length cl),(19,vI (reach f 0).length),(20,vI k),
     (6,vI n),(7,.slice am f.steps.length cm),(27,.slice ae (ends f).length ce),(28,vI (ends f).length),(29,vI j)] a') (ends f).length
   (fun a' ha=>⟨0,g4,rfl,hs,mQ,aar _,rfl,rfl,ha.kp rfl⟩) ?_
  clear hs mQ aq bB aT dx ph;rintro m a' _ ⟨j,g5,rfl,hs,mQ,hj,rfl,xt,dT⟩;have aq:=py.mono mQ;have dx:=Fl.mono mQ;have bB:=vE.mono mQ;have aT:=JN.mono mQ;have aE:=Wc.mono mQ;revert a';refine bT<|aD rfl<|ak ?_;by_cases EV:j<(ends f).length
  ·refine aG (b:=decide ((j:Int)<((ends f).length:Int))) (by simp;omega) rfl ?_;rw[aa7 EV,List.any_cons]at xt;have HU:=VB _ (aaQ EV);generalize Qq:(ends f)[j]=e at*;have JU:e.toNat<(cp f n).length:=by rw[fb];have:=HU.1;have:=HU.2;omega
   have P5:(cp f n).getD e.toNat false=(cp f n)[e.toNat]:=by rw[aaP,aas JU];rfl
   rw[P5]at xt;refine ar<|ai<|ak<|aw<|cO<|fP (y:=e) aT (by rw[bM (j:=j) rfl EV,Qq]) rfl ?_;rintro b p ys aK rfl;refine dE 1 [.e aK 0] rfl<|aF rfl<|ck 2 rfl<|fP (y:=(cp f n)[e.toNat]) aE (bM (by have:=HU.1;omega) JU) rfl ?_;rintro b p ys aK rfl;refine dE 1 [.e aK 0] rfl<|bE ?_;cases hb:(cp f n)[e.toNat]with
   |true=>
    rw[hb,abH]at xt;exact bZ rfl<|aJ<|P4 rfl<|aM<|aM<|P4 rfl<|aM<|b_<|ai<|ah<|Wp 2 rfl<|an<|fun a ha=>⟨(reach f 0).length-(k+1),by omega,k+1,_,rfl,hs,iN.trans mQ,by omega,rfl,by unfold sP;rw[←dt,xt];rfl,ha.keep ⟨rfl,rfl,rfl,rfl,rfl,rfl,kW rfl,trivial⟩⟩
   |false=>
    rw[hb,abE]at xt;exact bI rfl<|ar<|aX<|ai<|ah<|Wp 2 rfl<|an<|fun a ha=>⟨(ends f).length-(j+1),by omega,j+1,_,rfl,hs,mQ,by omega,rfl,xt,ha.keep ⟨rfl,rfl,rfl,rfl,rfl,rfl,rfl,rfl,rfl,rfl,rfl,kW rfl,trivial⟩⟩
  refine bg (b:=decide ((j:Int)<((ends f).length:Int))) (by simp;omega) rfl ?_;rw[abr (by omega)]at xt;rw[show alive f n=false from xt]at dt;refine aJ<|aM<|aM<|b_<|ai<|ck 1 rfl<|iX [(0,vI n)] [vI n] hs rfl rfl fun b2 g2 hs ag=>?_;obtain⟨aq,bB,aT,dx⟩:=dU ag aq bB aT dx;obtain⟨g3,wH,EW,Ac,EX⟩:=hs.cD (α:=Int) (xs:=[n]) (i:=0) rfl (cR.ints _ [n]);clear ag;have ag:=Ac;rw[←wH];replace hs:=EW;obtain⟨aq,bB,aT,dx⟩:=dU ag aq bB aT dx;refine hZ [(0,vI 1),(1,.slice (vA b2) 1 1)] [vI 1,.slice (vA b2) 1 1] [(0,1),(1,1)] rfl<|dC 0 hs rfl fun g9 hs ag=>?_;obtain⟨aq,bB,aT,dx⟩:=dU ag aq bB aT dx;replace EX:=EX.mono ag;refine bE<|au<|iy<|ec<|ec<|iy<|ec ?_;apply QC;refine my T.ok 0 rfl hs rfl rfl rfl<|hs.ret ?_;have xr:check f=(1,[n]):=by unfold check sP;rw[←dt];rfl
  rw[xr];exact⟨_,_,_,rfl,EX⟩
 refine bg (b:=decide ((k:Int)<((reach f 0).length:Int))) (by simp;omega) rfl ?_;rw[abr (by omega)]at dt;refine aJ<|aM<|aM<|b_<|ai<|aD rfl<|ak<|aD rfl<|aw ?_;have Fl:=dx;have py:=aq;have vE:=bB;have mQ:=G.le.refl g2
 refine aZ (fun m a' w=> ∃(j:Nat) (bv:Value) (g5:G),w=g5.w∧St g g5 [vO br [vI 0,.slice none 0 0] 145]∧G.le g2 g5∧j≤(reach f 0).length∧m=(reach f 0).length-j∧Ba g5 bv (lT f ((reach f 0).take j))∧
   Fr 74 [] [(1,vP bf),(2,vP br),(10,bv),(42,.slice al (reach f 0).length cl),(43,vI (reach f 0).length),(44,vI j)] a') (reach f 0).length
  (fun a' ha=>⟨0,_,g2,rfl,hs,mQ,aar _,rfl,.inl ⟨rfl,rfl⟩,ha.kp rfl⟩) ?_
 clear hs mQ aq bB aT dx;rintro m a' _ ⟨j,bv,g5,rfl,hs,mQ,hj,rfl,mR,dT⟩;have aq:=py.mono mQ;have dx:=Fl.mono mQ;have bB:=vE.mono mQ;revert a';refine bT<|aD rfl<|ak ?_;by_cases EV:j<(reach f 0).length
 ·refine aG (b:=decide ((j:Int)<((reach f 0).length:Int))) (by simp;omega) rfl ?_;have sO:=yC f ((reach f 0).take j) (reach f 0)[j];rw[←aaX EV]at sO;obtain⟨cE,mP⟩:=JO _ (aaQ EV);have UC:ib f 0:=⟨by omega,by have:=mP.1;have:=mP.2;omega⟩;generalize fL:(reach f 0)[j]=n at*;refine ar<|ai<|ak<|aw<|cO<|fP (y:=n) bB (by rw[bM (j:=j) rfl EV,fL]) rfl ?_;rintro b p ys aK rfl;refine dE 1 [.e aK 0] rfl<|aF rfl<|ak ?_;apply dP (eA (.f (Fact.rs (cp f 0))::(fe (.f (Fact.rs (eh f (cp f 0) n))::(.f (Fact.rs (eh f (cp f 0) n))::[]))))) 6 [(5,13)] (by kernel_rfl)
  ·refine cY [[],[]] [.e aq 0,.e aq 0] (St.start _) rfl<|aW [(1,49)] (fun gd hf=>?_) ?_
   ·have eR:=(G.a_ _).trans hf.le;refine bU rfl<|az<|ay rfl<|bu (cB 184) bJ rfl rfl rfl rfl rfl (vU _ f 0 _ (dx.mono eR) cE UC.1 UC.2) fun g' v h1 h2=>?_
    obtain⟨g2,e1,e2,e3,e4⟩:=(St.start gd).lS h1 h2;exact⟨g2,e1,e2.p9,e4⟩
   refine jV [[]] rfl<|aW [(0,48),(2,50),(3,51),(2,50)] (fun gd hf=>?_) ?_
   ·have eR:=(G.a_ _).trans hf.le;refine bU rfl<|aI fun v2 h2=>?_;refine bU rfl ?_;refine aI fun v2 h2=>?_
    refine az<|ay rfl<|bu (cB 185) bJ rfl rfl rfl rfl rfl (NX _ _ f (cp f 0) n _ (dx.mono eR) h2 cE (fb f 0) mP.1 mP.2) fun g' v h1 h2=>?_
    exact⟨g',rfl,h1,h2⟩
   exact aW [(4,52),(4,52),(4,52)] (fun gd hf=>aI fun v4 h4=>(aI fun v4 h4=>(aI fun v4 h4=>(az (bj rfl h4)))))<|fk
  intro g1 aH;refine aI fun v5 h5=>?_;apply az;replace hs:=hs.dr.call aH;have ag:=(G.a_ _).trans aH.le;replace mQ:=mQ.trans ag;replace mR:=mR.mono ag;have aT:Rs g1 v5 (eh f (cp f 0) n):=h5;clear h5;unfold uA at sO;generalize ZM:eh f (cp f 0) n=cy at*;obtain⟨ac,cc,rfl⟩:=aT.isSlice;refine bE<|ck 4 rfl ?_;by_cases pg:0<cy.length
  ·refine bd 56 (b':=true) (decide_eq_true (by omega)) rfl ?_;have OQ:cy≠[]:=abb.1 pg;rcases mR with⟨Aa,rfl⟩|⟨Aa,ab,cb,rfl,S5⟩
   ·rw[if_pos ⟨pg,.inl Aa⟩]at sO;exact Wp 1 rfl<|aN rfl rfl<|il T.ok (neg:=false) rfl rfl rfl rfl rfl<|aF rfl<|bZ rfl<|ah<|Wp 2 rfl<|an<|aX<|ai<|ah<|Wp 2 rfl<|an<|fun a ha=>⟨(reach f 0).length-(j+1),by omega,j+1,_,_,rfl,hs,mQ,by omega,rfl,by rw[sO];exact .of aT OQ,ha.keep ⟨rfl,rfl,rfl,rfl,rfl,kW rfl,trivial⟩⟩
   refine Wp 1 rfl<|aN rfl rfl<|il T.ok (neg:=false) rfl rfl rfl rfl rfl<|aF rfl ?_;by_cases je:cy.length<(lT f ((reach f 0).take j)).length
   ·rw[if_pos ⟨pg,.inr je⟩]at sO;exact aG (b:=decide ((cy.length:Int)<((lT f ((reach f 0).take j)).length:Int))) (by simp;omega) rfl<|ah<|Wp 2 rfl<|an<|aX<|ai<|ah<|Wp 2 rfl<|an<|fun a ha=>⟨(reach f 0).length-(j+1),by omega,j+1,_,_,rfl,hs,mQ,by omega,rfl,by rw[sO];exact .of aT OQ,ha.keep ⟨rfl,rfl,rfl,rfl,rfl,kW rfl,trivial⟩⟩
   rw[if_neg (fun h=>h.2.elim Aa je)]at sO;exact bg (b:=decide ((cy.length:Int)<((lT f ((reach f 0).take j)).length:Int))) (by simp;omega) rfl<|ar<|aX<|ai<|ah<|Wp 2 rfl<|an<|fun a ha=>⟨(reach f 0).length-(j+1),by omega,j+1,_,_,rfl,hs,mQ,by omega,rfl,by rw[sO];exact .inr ⟨Aa,_,_,rfl,S5⟩,ha.keep ⟨rfl,rfl,rfl,rfl,rfl,kW rfl,trivial⟩⟩
  refine bd 56 (b':=false) (decide_eq_false (by omega)) rfl ?_;rw[if_neg (fun h=>pg h.1)]at sO;exact aF rfl<|bI rfl<|ar<|aX<|ai<|ah<|Wp 2 rfl<|an<|fun a ha=>⟨(reach f 0).length-(j+1),by omega,j+1,_,_,rfl,hs,mQ,by omega,rfl,by rw[sO];exact mR,ha.keep ⟨rfl,rfl,rfl,rfl,rfl,kW rfl,trivial⟩⟩
 refine bg (b:=decide ((j:Int)<((reach f 0).length:Int))) (by simp;omega) rfl ?_;rw[aaD (by omega)]at mR;refine aJ<|aM<|aM<|b_<|ai<|ak<|ck 1 rfl ?_;have xr:check f=if lT f (reach f 0)=[]then(0,[])else(2,lT f (reach f 0)):=by unfold check;rw[←dt];rfl
 rcases mR with⟨Aa,rfl⟩|⟨Aa,ab,cb,rfl,S5⟩
 ·rw[if_pos Aa]at xr;refine aN rfl rfl<|il T.ok (neg:=false) rfl rfl rfl rfl rfl<|bE<|bZ rfl<|cO<|hZ [] [vI 0,.slice none 0 0] [(0,1),(1,1)] rfl<|dC 0 hs rfl fun g9 hs ag=>bE<|au<|ec ?_;apply QC;refine my T.ok 0 rfl hs rfl rfl rfl<|hs.ret ?_;rw[xr];exact⟨_,_,_,rfl,Rs.nil _⟩
 rw[if_neg Aa]at xr;refine aN rfl rfl<|il T.ok (neg:=false) rfl rfl rfl rfl rfl<|bE<|bI rfl<|ar<|ai<|ck 1 rfl<|hZ [(0,vI 2),(1,.slice (some ab) (lT f (reach f 0)).length cb)] [vI 2,.slice (some ab) (lT f (reach f 0)).length cb] [(0,1),(1,1)] rfl<|dC 0 hs rfl fun g9 hs ag=>?_;replace S5:=S5.mono ag;refine bE<|au ?_;apply QC;refine my T.ok 0 rfl hs rfl rfl rfl<|hs.ret ?_;rw[xr];exact⟨_,_,_,rfl,S5⟩
def A5:aU:=⟨0,0,[],[]⟩
def RH(g:G)(cs:List Value)(o:Option aU)(h:List bc):Prop:=
 ∃a1 n1 c1 a2 n2 c2 a3 c3,cs=[vI (o.getD A5).bS,vI (o.getD A5).cd,.slice a1 n1 c1,.slice a2 n2 c2,.bool o.isSome,.slice a3 h.length c3]∧Rs g (.slice a1 n1 c1) (o.getD A5).steps∧Rs g (.slice a2 n2 c2) (o.getD A5).windows∧Rs g (.slice a3 h.length c3) h
theorem RH.mono{g g':G}{cs:List Value}{o:Option aU}{h:List bc}(k:RH g cs o h)(hle:g.le g'):RH g' cs o h:=by obtain⟨a1,n1,c1,a2,n2,c2,a3,c3,e,h1,h2,h3⟩:=k;exact⟨a1,n1,c1,a2,n2,c2,a3,c3,e,h1.mono hle,h2.mono hle,h3.mono hle⟩
def MG(g:G)(v:Value)(o:Option aU)(h:List bc):Prop:=∃cs,v= .agg cs.toArray∧RH g cs o h
theorem MG.mono{g g':G}{v:Value}{o:Option aU}{h:List bc}(k:MG g v o h)(hle:g.le g'):MG g' v o h:=by obtain⟨cs,e,k⟩:=k;exact⟨cs,e,k.mono hle⟩
def gB(b:ft)(w time:Int):Option aU:=
 if((oM b w time).getD fS).prod=0 then none
 else match b.qt.find? fun f=>f.prod==((oM b w time).getD fS).prod with
  |none=>none
  |some t=>match lW t.text with
   | .inl f=>if(check f).1=0 then some f else none
   | .inr _=>none
def YC(b:ft):Prop:=∀f∈b.qt,f.text.length≤999999
theorem GW(v u:Value)(b:ft)(w time:Int)(h:List bc)(g:G)(aL:gJ g v b)(aA:Rs g u h)(hb:YC b)(cr:kr g):cN prog 43 #[v,vI w,vI time,u] g fun g' r=>MG g' r (gB b w time) h:=by
 have hs:=St.start g;have aj:=G.le.refl g;obtain⟨sl,rfl,ee⟩:=aL;have aL:gJ g (.agg ((List.range 11).map sl).toArray) b:=⟨sl,rfl,ee⟩;obtain⟨a3,c3,rfl⟩:=aA.isSlice;refine enter func43 rfl ntmps43 rfl<|cO<|gF hs rfl fun b4 g2 hs ag aq=>?_;obtain⟨aA,aL,cr⟩:=eS ag aA aL cr;refine fA hs rfl fun b8 g1 hs ag=>?_;obtain⟨aq,aA,aL,cr⟩:=dU ag aq aA aL cr;refine bE<|ck 1 rfl<|hZ [(2,.slice a3 h.length c3)] [vI 0,vI 0,.slice none 0 0,.slice none 0 0,.bool false,.slice a3 h.length c3] [(0,4),(4,1),(5,1)] rfl<|fA hs rfl fun b9 g1 hs ag=>?_;obtain⟨aq,aA,aL,cr⟩:=dU ag aq aA aL cr;refine dC 0 hs rfl fun g1 hs ag=>?_;obtain⟨aq,aA,aL,cr⟩:=dU ag aq aA aL cr;refine bE<|eO 3 [.z aq] rfl<|d_ rfl (O9 _ b w time _ aL) ?_;rintro g1 _ aH rfl;replace hs:=hs.call aH;have ag:=aH.le;obtain⟨aq,aA,aL,cr⟩:=dU ag aq aA aL cr
 have pY:gB b w time=if((oM b w time).getD fS).prod=0 then none else match b.qt.find? fun f=>f.prod==((oM b w time).getD fS).prod with
  |none=>none
  |some t=>match lW t.text with
   | .inl f=>if(check f).1=0 then some f else none
   | .inr _=>none:=rfl
 generalize((oM b w time).getD fS).prod=pr at pY⊢;clear aH;refine aF rfl<|ak<|aD rfl ?_;by_cases GB:pr=0
 ·rw[if_pos GB]at pY;rw[pY];refine aG (b:=pr==0) (by simp[GB]) rfl<|jd 1 [.o 0] hs rfl<|dC 1 hs rfl fun g1 hs ag=>?_;obtain⟨aq,aA,aL,cr⟩:=dU ag aq aA aL cr;refine bE<|au (my T.ok 1 rfl hs rfl rfl rfl (hs.ret ⟨_,rfl,none,0,0,none,0,0,a3,c3,rfl,Rs.nil _,Rs.nil _,aA⟩))
 rw[if_neg GB]at pY;refine bg (b:=pr==0) (by simp[GB]) rfl<|ar<|ai<|eO 2 [.z aq] rfl<|d_ rfl (Nz _ b pr _ aL) ?_;rintro g1 _ aH rfl;replace hs:=hs.call aH;have ag:=aH.le;obtain⟨aA,cr⟩:=cA ag aA cr;clear aH;cases BT:b.qt.find? (fun f=>f.prod==pr)with
 |none=>
  rw[BT]at pY;rw[show gB b w time=none from pY];refine Wp 3 rfl<|fA hs rfl fun Mx g1 hs ag=>?_;obtain⟨aA,cr⟩:=cA ag aA cr;refine om 0 hs rfl fun g2 hs ag aK=>?_;obtain⟨aA,cr⟩:=cA ag aA cr;clear aK;refine aF rfl<|ak<|aD rfl<|bZ rfl<|jd 1 [.o 0] hs rfl<|dC 1 hs rfl fun g1 hs ag=>?_;obtain⟨aA,cr⟩:=cA ag aA cr;refine bE<|au (my T.ok 1 rfl hs rfl rfl rfl (hs.ret ⟨_,rfl,none,0,0,none,0,0,a3,c3,rfl,Rs.nil _,Rs.nil _,aA⟩))
 |some t=>
  rw[BT]at pY;replace pY:gB b w time=match lW t.text with| .inl f=>if(check f).1=0 then some f else none| .inr _=>none:=pY
  have JD:=hb t (List.mem_of_find?_eq_some BT);refine Wp 3 rfl<|fA hs rfl fun Mx g1 hs ag=>?_;obtain⟨aA,cr⟩:=cA ag aA cr;refine om 0 hs rfl fun g2 hs ag aB=>?_;obtain⟨aA,cr⟩:=cA ag aA cr;refine aF rfl<|ak<|aD rfl<|bI rfl<|ar<|ai<|eO 2 [.z aB] rfl<|d_ rfl (NI t.text _ JD cr) fun g6 v6 pw h6=>?_;replace hs:=hs.call pw;have ag:=pw.le;replace aA:=aA.mono ag;unfold kG at h6;cases ud:lW t.text with
  |inr k=>
   rw[ud]at h6 pY;rw[show gB b w time=none from pY];obtain rfl:=h6;refine Wp 4 rfl<|fA hs rfl fun PH g1 hs ag=>?_;replace aA:=aA.mono ag;refine om 0 hs rfl fun g2 hs ag aK=>?_;replace aA:=aA.mono ag;clear aK;refine aF rfl<|ak<|aD rfl<|bI rfl<|ar<|ai<|jd 1 [.o 0] hs rfl<|dC 1 hs rfl fun g1 hs ag=>?_;replace aA:=aA.mono ag;refine bE<|au (my T.ok 1 rfl hs rfl rfl rfl (hs.ret ⟨_,rfl,none,0,0,none,0,0,a3,c3,rfl,Rs.nil _,Rs.nil _,aA⟩))
  |inl f=>
   rw[ud]at h6 pY;replace pY:gB b w time=if(check f).1=0 then some f else none:=pY;obtain⟨v7,rfl,a1,n1,c1,a2,n2,c2,rfl,aE,bB⟩:=h6;refine Wp 4 rfl<|fA hs rfl fun PH g1 hs ag=>?_;obtain⟨aA,aE,bB⟩:=eS ag aA aE bB;refine om 0 hs rfl fun g2 hs ag cF=>?_;obtain⟨aA,aE,bB⟩:=eS ag aA aE bB;refine aF rfl<|ak<|eO 4 [.z cF] rfl ?_;clear pw;refine d_ rfl (NJ _ f _ ⟨a1,n1,c1,a2,n2,c2,rfl,aE,bB⟩) ?_;rintro g8 v8 KA ⟨a6,n6,c6,rfl,_⟩;replace hs:=hs.call KA;have ag:=KA.le;obtain⟨cF,aA,aE,bB⟩:=dU ag cF aA aE bB;refine aF rfl ?_;by_cases xr:(check f).1=0
   ·refine aG (b:=(check f).1==0) (by simp[xr]) rfl<|ah<|dE 2 [.z cF] rfl<|dC 0 hs rfl fun g1 hs ag=>?_;obtain⟨aA,aE,bB⟩:=eS ag aA aE bB;refine Wp 1 rfl<|dC 0 hs rfl fun g1 hs ag=>?_;obtain⟨aA,aE,bB⟩:=eS ag aA aE bB;refine bE<|jd 1 [.o 0] hs rfl<|dC 1 hs rfl fun g1 hs ag=>?_;obtain⟨aA,aE,bB⟩:=eS ag aA aE bB;refine bE<|au (my T.ok 1 rfl hs rfl rfl rfl (hs.ret ?_));rw[pY,if_pos xr];exact⟨_,rfl,a1,n1,c1,a2,n2,c2,a3,c3,rfl,aE,bB,aA⟩
   refine bg (b:=(check f).1==0) (by simp[xr]) rfl<|ar<|ai<|jd 1 [.o 0] hs rfl<|dC 1 hs rfl fun g1 hs ag=>?_;replace aA:=aA.mono ag;refine bE<|au (my T.ok 1 rfl hs rfl rfl rfl (hs.ret ?_));rw[pY,if_neg xr];exact⟨_,rfl,none,0,0,none,0,0,a3,c3,rfl,Rs.nil _,Rs.nil _,aA⟩
def lh:Step:=⟨0,[],0,0,[],0,0⟩
def iu(o:Option aU)(n:Int):Option Step:=o.bind fun f=>dq f.steps n
theorem KB(v:Value)(o:Option aU)(h:List bc)(n:Int)(g:G)(kn:MG g v o h):cN prog 102 #[v,vI n] g fun g' r=> ∃cs,r= .tuple #[.agg cs.toArray,.bool (iu o n).isSome]∧sR g' cs ((iu o n).getD lh):=by
 have hs:=St.start g;have aj:=G.le.refl g;obtain⟨_,rfl,a1,n1,c1,a2,n2,c2,a3,c3,rfl,aE,bB,aT⟩:=kn;refine enter func102 rfl ntmps102 rfl<|cO<|gF hs rfl fun b2 g2 hs ag aq=>?_;replace aE:=aE.mono ag;refine fA hs rfl fun b4 g1 hs ag=>?_;obtain⟨aq,aE⟩:=cA ag aq aE;refine aF rfl<|ak<|eO 4 [.z aq] rfl ?_
 cases o with
 |none=>
  refine aF rfl<|bZ rfl<|cO<|hZ [] [vI 0,.slice none 0 0,vI 0,vI 0,.slice none 0 0,vI 0,vI 0] [(0,1),(1,1),(2,1),(3,1),(4,1),(5,1),(6,1)] rfl<|dC 0 hs rfl fun g1 hs ag=>?_;obtain⟨aq,aE⟩:=cA ag aq aE;refine aF rfl ?_;rw[show iu none n=none from rfl];exact au (nV T.ok 0 rfl hs rfl rfl rfl rfl (hs.ret ⟨_,rfl,none,0,0,none,0,0,rfl,Rs.nil _,Rs.nil _⟩))
 |some f=>
  obtain⟨_,_,e⟩:=aE.isSlice;obtain⟨rfl,rfl,rfl⟩:=aaO e;clear e;refine Wp 4 rfl ?_;cases h1:decide (n<0)with
  |true=>
   have e:iu (some f) n=none:=if_pos (of_decide_eq_true h1);refine aF rfl<|bZ rfl<|cO<|hZ [] [vI 0,.slice none 0 0,vI 0,vI 0,.slice none 0 0,vI 0,vI 0] [(0,1),(1,1),(2,1),(3,1),(4,1),(5,1),(6,1)] rfl<|dC 0 hs rfl fun g1 hs ag=>?_;obtain⟨aq,aE⟩:=cA ag aq aE;refine aF rfl ?_;rw[e];exact au (nV T.ok 0 rfl hs rfl rfl rfl rfl (hs.ret ⟨_,rfl,none,0,0,none,0,0,rfl,Rs.nil _,Rs.nil _⟩))
  |false=>
   have h1:=of_decide_eq_false h1;refine BS [.z aq] rfl ?_;by_cases h2:(f.steps.length:Int)≤n
   ·have e:iu (some f) n=none:=(if_neg h1).trans (abx (by omega));refine aG (b:=decide ((f.steps.length:Int)≤n)) (decide_eq_true h2) rfl<|cO<|hZ [] [vI 0,.slice none 0 0,vI 0,vI 0,.slice none 0 0,vI 0,vI 0] [(0,1),(1,1),(2,1),(3,1),(4,1),(5,1),(6,1)] rfl<|dC 0 hs rfl fun g1 hs ag=>?_;obtain⟨aq,aE⟩:=cA ag aq aE;refine aF rfl ?_;rw[e];exact au (nV T.ok 0 rfl hs rfl rfl rfl rfl (hs.ret ⟨_,rfl,none,0,0,none,0,0,rfl,Rs.nil _,Rs.nil _⟩))
   have aV:n.toNat<f.steps.length:=by omega
   have e:iu (some f) n=some f.steps[n.toNat]:=(if_neg h1).trans (aas aV);refine bg (b:=decide ((f.steps.length:Int)≤n)) (decide_eq_false h2) rfl ?_;rw[e];refine ar<|ai<|eO 4 [.z aq] rfl<|fP (y:=f.steps[n.toNat]) aE e rfl fun b6 q6 ys aK fw=>?_;obtain⟨a7,n7,c7,a8,n8,c8,rfl,h7,h8⟩:=fw;have aB:=aK;clear aK;refine dE 1 [.e aB 0] rfl<|dC 0 hs rfl fun g1 hs ag=>?_;replace h7:=h7.mono ag;replace h8:=h8.mono ag;exact aF rfl<|au (nV T.ok 0 rfl hs rfl rfl rfl rfl (hs.ret ⟨_,rfl,a7,n7,c7,a8,n8,c8,rfl,h7,h8⟩))
theorem KC(v:Value)(l:List Int)(n:Int)(g:G)(aA:Rs g v l):cN prog 204 #[v,vI n] g fun _ r=> ∃z:Int,r=vI z∧(decide (0≤z))=l.contains n:=by
 have hs:=St.start g;obtain⟨a,c,rfl⟩:=aA.isSlice;have hlen:=aA.ef;unfold maxLen at hlen;refine enter func204 rfl ntmps204 rfl<|aD rfl<|ak<|aD rfl<|aw ?_
 refine aZ (fun m a' w=> ∃(i:Nat),w=g.w∧i≤l.length∧(l.take i).contains n=false∧m=l.length-i∧
   Fr 19 [] [(0,.slice a l.length c),(1,vI n),(7,vI (l.length:Nat)),(8,vI (i:Nat))] a') l.length
  (fun a' ha=>⟨0,rfl,aar _,by simp,rfl,ha.kp rfl⟩) ?_
 rintro m a' _ ⟨i,rfl,hi,dt,rfl,dT⟩;revert a';refine bT<|aD rfl<|ak ?_;by_cases aV:i<l.length
 ·refine aG (b:=decide ((i:Int)<(l.length:Int))) (decide_eq_true (by omega)) rfl ?_;have eI:dq l (i:Int)=some l[i]:=bM rfl aV;have ed:l.take (i+1)=l.take i++[l[i]]:=by rw[aaV,aas aV];rfl
  have kO:l[i]∈l:=aaQ aV;generalize l[i]=x at*;refine ar<|ai<|ak<|aw<|aD rfl<|ck 3 rfl<|fP (y:=x) aA eI rfl fun b p ys aK fw=>?_;obtain rfl:ys=[vI x]:=fw;have aq:=aK;refine BS [.e aq 0] rfl ?_;by_cases hx:n=x
  ·subst hx;exact aG (b:=n==n) (by simp) rfl<|aD rfl<|au (cg rfl hs ⟨_,rfl,by simp[kO]⟩)
  exact bg (b:=n==x) (by simp[hx]) rfl<|ar<|aX<|ai<|ah<|Wp 2 rfl<|an<|fun a ha=>⟨l.length-(i+1),by omega,i+1,rfl,by omega,by rw[ed];simp at dt⊢;exact⟨dt,hx⟩,rfl,ha.keep ⟨rfl,rfl,rfl,kW rfl,trivial⟩⟩
 refine bg (b:=decide ((i:Int)<(l.length:Int))) (decide_eq_false (by omega)) rfl ?_;rw[aaD (by omega)]at dt;exact aJ<|aM<|aM<|b_<|ai<|aD rfl<|au (cg rfl hs ⟨-1,rfl,dt.symm⟩)
theorem qO(v:Value)(l:List Int)(n:Int)(g:G)(aA:Rs g v l):cN prog 153 #[v,vI n] g fun _ r=>r= .bool (l.contains n):=by have hs:=St.start g;refine enter func153 rfl ntmps153 rfl<|aD rfl<|ck 2 rfl<|d_ rfl (KC _ l n _ aA) ?_;rintro g1 _ aH ⟨z,rfl,hz⟩;replace hs:=hs.call aH;have ag:=aH.le;exact aF rfl<|au (cg rfl hs (congrArg Value.bool hz))
def MH(h:List bc)(n back:Int)(i:Nat):Bool:=(h.getD i fS).step==n&&(h.getD (i+1) fS).step==back
def xk(o:Option aU)(h:List bc)(n:Int):Int:=
 if((iu o n).getD lh).next.contains ((iu o n).getD lh).back then 0 else(((List.range (h.length-1)).filter (MH h n ((iu o n).getD lh).back)).length:Nat)
theorem SJ(v:Value)(o:Option aU)(h:List bc)(n:Int)(g:G)(kn:MG g v o h)(hl:h.length≤1000000):cN prog 104 #[v,vI n] g fun _ r=>r=vI (xk o h n):=by
 have hs:=St.start g;have aj:=G.le.refl g;obtain⟨_,rfl,a1,n1,c1,a2,n2,c2,a3,c3,rfl,aE,bB,aT⟩:=kn;refine enter func104 rfl ntmps104 rfl<|cO<|gF hs rfl fun b2 g2 hs ag aq=>?_;obtain⟨aj,aE,bB,aT⟩:=dU ag aj aE bB aT;refine aF rfl<|aD rfl<|eO 2 [.z aq] rfl<|d_ rfl (KB _ o h n _ ⟨_,rfl,a1,n1,c1,a2,n2,c2,a3,c3,rfl,aE,bB,aT⟩) ?_;rintro g6 _ pw ⟨cs,rfl,dj⟩;replace hs:=hs.call pw;have ag:=pw.le;obtain⟨aj,aq,aT⟩:=eS ag aj aq aT;unfold xk;generalize(iu o n).getD lh=s at*;obtain⟨a7,n7,c7,a8,n8,c8,rfl,fg,ij⟩:=dj;clear aE bB pw;refine Wp 3 rfl<|fA hs rfl fun b6 g1 hs ag=>?_;obtain⟨aj,aq,aT,ij⟩:=dU ag aj aq aT ij;refine om 0 hs rfl fun g2 hs ag aB=>?_;obtain⟨aj,aq,aT,ij⟩:=dU ag aj aq aT ij;refine aF rfl<|ak<|eO 4 [.z aB,.z aB] rfl<|d_ rfl (qO _ s.next s.back _ ij) ?_;rintro g1 _ aH rfl;replace hs:=hs.call aH;have ag:=aH.le;obtain⟨aj,aq,aB,aT⟩:=dU ag aj aq aB aT;clear aH fg ij;apply bE;cases s.next.contains s.back with
 |true=>
  exact bZ rfl<|aD rfl<|au (cg rfl hs rfl)
 |false=>
  refine bI rfl<|ar<|ai<|ak<|aD rfl<|aw ?_
  refine aZ (fun m a' w=> ∃(k q:Nat) (g':G),w=g'.w∧St g g' []∧G.le g g'∧Rs g' (.slice a3 h.length c3) h∧EP g' b2 0 [vI (o.getD A5).bS,vI (o.getD A5).cd,.slice a1 n1 c1,.slice a2 n2 c2,.bool o.isSome,.slice a3 h.length c3]∧EP g' b6 0 [vI s.du,.slice a7 n7 c7,vI s.min,vI s.max,.slice a8 n8 c8,vI s.back,vI s.dv]∧(k+1≤h.length∨k=0)∧q=((List.range k).filter (MH h n s.back)).length∧m=h.length-k∧
    Fr 50 [] [(1,vI n),(2,vP b2),(5,vI (q:Nat)),(6,vP b6),(8,vI (k+1:Nat))] a') h.length
   (fun a' ha=>⟨0,0,_,rfl,hs,aj,aT,aq,aB,.inr rfl,rfl,rfl,ha.kp rfl⟩) ?_
  (repeat clear hs);(repeat clear aT);(repeat clear aj);(repeat clear aq);(repeat clear aB);rintro m a' _ ⟨k,q,g',rfl,hs,aj,aT,aq,aB,hk,hq,rfl,dT⟩;have hqk:q≤k:=by rw[hq];exact aaC (abq ..) (by rw[acN];omega)
  revert a';refine bT<|ak<|pW [.z aq] rfl ?_;by_cases aV:k+1<h.length
  ·refine aG (b:=decide (((k+1:Nat):Int)<(h.length:Int))) (by simp;omega) rfl<|ar<|ai<|ak<|aw<|ak ?_;obtain⟨b0,p0,ys,rfl,YD,hx⟩:=aT.at (i:=k) (aas (by omega));obtain⟨V5,V6,OM,e,epy,hy⟩:=aT.at (i:=k+1) (aas aV);obtain⟨rfl,rfl⟩:b0=V5∧p0=V6:=by simpa using e
   clear e;have lH:((List.range (k+1)).filter (MH h n s.back)).length=q+(if h[k].step==n&&h[k+1].step==s.back then 1 else 0):=by
    rw[acs,abe,aal,←hq];congr 1;have e:MH h n s.back k=(h[k].step==n&&h[k+1].step==s.back):=by unfold MH;rw[aaP,aaP,aas (by omega),aas aV];rfl
    rw[abU,e];split<;>rfl
   generalize h[k]=x at hx lH;generalize h[k+1]=y at hy lH;obtain rfl:ys=bK x:=hx;obtain rfl:OM=bK y:=hy;clear hq;cases h1:x.step==n with
   |false=>
    rw[h1]at lH;apply aO hs (eA (fe (.e (vI (k:Nat))::gR (.e (.bool false)::cV (eA (fe [])))))) 20 [(19,46)] (by kernel_rfl) rfl
    ·exact cY [[],[0],[]] [.z aq] hs rfl<|aW [(2,29)] (fun gd hf=>cj rfl (bj rfl (congrArg (Value.int .i64) (by rw[wq];omega))))<|aW [(1,28),(3,30)] (fun gd hf=>bN rfl (ay rfl (ff T.ok rfl rfl rfl (by omega) (by omega) rfl rfl rfl (cC rfl))))<|cY [[4],[5],[]] [.e YD 13] hs rfl<|aW [(6,33),(7,34)] (fun gd hf=>bN rfl (bj rfl (congrArg Value.bool h1)))<|mX [[8],[9],[10,9],[9],[11,12,9],[13,9],[14,9],[9],[16,9],[15,17,9],[9,18]] [] hs rfl
    clear hs;intro g6 hs ag;obtain⟨aj,aq,aB,aT⟩:=dU ag aj aq aB aT;exact bE<|bI rfl<|ar<|aX<|ai<|ah<|Wp 3 rfl<|an<|fun a ha=>⟨h.length-(k+1),by omega,k+1,q,_,rfl,hs,aj,aT,aq,aB,.inl (by omega),lH.symm,rfl,ha.keep ⟨rfl,rfl,rfl,rfl,kW rfl,trivial⟩⟩
   |true=>
    rw[h1]at lH;apply aO hs (eA (fe (.e (vI (k:Nat))::gR (.e (.bool true)::cV (eA (fe [])))))) 20 [(19,46)] (by kernel_rfl) rfl
    ·exact cY [[],[0],[]] [.z aq] hs rfl<|aW [(2,29)] (fun gd hf=>cj rfl (bj rfl (congrArg (Value.int .i64) (by rw[wq];omega))))<|aW [(1,28),(3,30)] (fun gd hf=>bN rfl (ay rfl (ff T.ok rfl rfl rfl (by omega) (by omega) rfl rfl rfl (cC rfl))))<|cY [[4],[5],[]] [.e YD 13] hs rfl<|aW [(6,33),(7,34)] (fun gd hf=>bN rfl (bj rfl (congrArg Value.bool h1)))<|cY [[8],[9],[10,9],[9]] [.z aq] hs rfl<|aW [(11,38),(12,39),(9,36)] (fun gd hf=>dD rfl (ay rfl (ff T.ok rfl rfl rfl (by omega) (by omega) rfl rfl rfl (cC rfl))))<|mX [[13,9],[14,9],[9],[16,9],[15,17,9],[9,18]] [.e epy 13,.z aB] hs rfl
    clear hs;intro g6 hs ag;obtain⟨aj,aq,aB,aT⟩:=dU ag aj aq aB aT;apply bE;cases h2:y.step==s.back with
    |false=>
     rw[h2]at lH;exact bI rfl<|ar<|aX<|ai<|ah<|Wp 3 rfl<|an<|fun a ha=>⟨h.length-(k+1),by omega,k+1,q,_,rfl,hs,aj,aT,aq,aB,.inl (by omega),lH.symm,rfl,ha.keep ⟨rfl,rfl,rfl,rfl,kW rfl,trivial⟩⟩
    |true=>
     rw[h2]at lH;exact bZ rfl<|ah<|Wp 3 rfl<|an<|aX<|ai<|ah<|Wp 3 rfl<|an<|fun a ha=>⟨h.length-(k+1),by omega,k+1,q+1,_,rfl,hs,aj,aT,aq,aB,.inl (by omega),lH.symm,rfl,ha.keep ⟨rfl,rfl,kW rfl,rfl,kW rfl,trivial⟩⟩
  refine bg (b:=decide (((k+1:Nat):Int)<(h.length:Int))) (by simp;omega) rfl<|aJ<|aM<|aM<|b_<|ai<|aD rfl<|au<|cg rfl hs ?_;rw[hq,show k=h.length-1 from by omega];rfl
theorem rT{ad:Option Addr}{n c:Nat}{zs:List Int}{g0 g:G}{L:List dc}(hs:St g0 g (.row 3 1 (.slice ad n c) n (eB zs)::L)):
  CallsIn Wd 0 prog 36 #[.slice ad n c] g.w
   (df g fun g' r=>r= .slice ad (Lib.compact zs).length c∧St g0 g' (.row 3 1 (.slice ad (Lib.compact zs).length c) (Lib.compact zs).length (eB (Lib.compact zs))::L)):=by
 have hr:=hs.own 0 _ rfl;by_cases h0:n=0
 ·subst h0;have hz:zs=[]:=by have:=hr.1.1;rw[oW,abP]at this;exact aa' this
  subst hz;refine callsIn_wide.2<|(Tryz.slices_Compact_int_empty ad c g.w).mono ?_;rintro e w' ⟨rfl,rfl⟩;exact⟨g,_,rfl,rfl,G.le.refl g,rfl,hs⟩
 obtain⟨bk,off,rfl⟩:=hr.1.pos h0;obtain⟨hH,FF,rfl,qP,tG⟩:=hr.1.KE h0;unfold maxLen at tG;have je:=Lib.compact_length_le zs;refine callsIn_wide.2<|(Tryz.slices_Compact_int bk off c zs g.w hH (by omega) qP).mono ?_;rintro e w' ⟨rfl,q,rfl⟩;obtain⟨g2,fm,dm,ag⟩:=hs.putRow (i:=0) (q:=q) (os:=#[]) (d:=Lib.compact zs++List.replicate (zs.length-(Lib.compact zs).length) 0) rfl h0 (by simp;omega);have yS:=dm.DA (i:=0) (a:=(Lib.compact zs).length) rfl je;rw[if_neg (by omega),abn,abM,abP,abj,Nat.sub_zero,Nat.sub_zero]at yS;refine⟨g2,_,fm,rfl,ag,rfl,?_⟩;have e:(eB (Lib.compact zs++List.replicate (zs.length-(Lib.compact zs).length) 0)).take ((Lib.compact zs).length*1)=eB (Lib.compact zs):=by unfold eB;rw[aaW,aa3,show(Lib.compact zs).length=((Lib.compact zs).map (Value.int .i64)).length from by simp,acf]
 rw[←e];exact yS
def xj(o:Option aU)(h:List bc)(n:Int)(s:Step):List Int:=
 Lib.compact (if 0≤s.back∧xk o h n<s.dv then jI (s.next++[s.back])else s.next)
def oL(o:Option aU)(h:List bc):List Int:=
 if o.isSome=false then []else if h=[]then [0]else match iu o (h.getLast?.getD fS).step with
  |none=>[]
  |some s=>xj o h (h.getLast?.getD fS).step s
def UL(o:Option aU):Prop:=∀f,o=some f→ ∀s∈f.steps,s.next.length≤100000
theorem KG(v:Value)(o:Option aU)(h:List bc)(g:G)(kn:MG g v o h)(hl:h.length≤1000000)(ho:UL o):cN prog 44 #[v] g fun g' r=>Rs g' r (oL o h):=by
 have hs:=St.start g;have aj:=G.le.refl g;have oX:=kn;obtain⟨_,rfl,a1,n1,c1,a2,n2,c2,a3,c3,rfl,aE,bB,aT⟩:=kn;refine enter func44 rfl ntmps44 rfl<|cO<|gF hs rfl fun b1 g2 hs ag aq=>?_;obtain⟨aj,aT⟩:=cA ag aj aT;replace oX:=oX.mono aj;refine aF rfl<|ak<|aw<|pW [.z aq] rfl ?_;unfold oL;cases SK:o.isSome with
 |false=>
  rw[if_pos rfl];exact bZ rfl<|aD rfl<|au (cg rfl hs (Rs.nil _))
 |true=>
  rw[if_neg (by simp)];rw[SK]at aq oX;refine bI rfl<|pW [.z aq] rfl ?_;rcases ach h with rfl|⟨hi,x,rfl⟩
  ·rw[if_pos rfl];refine aG (b:=(([]:List bc).length:Int)==0) rfl rfl<|cO<|iX [(0,vI ((0:Int)))] [vI ((0:Int))] hs rfl rfl fun bl gl hs ag=>?_;obtain⟨aq,aT⟩:=cA ag aq aT;obtain⟨gz,gX,dk,iw,fg⟩:=hs.cD (α:=Int) (xs:=[(0:Int)]) (i:=0) rfl (cR.ints _ [(0:Int)]);clear ag;have ag:=iw;rw[←gX];replace hs:=dk;clear dk;obtain⟨aq,aT⟩:=cA ag aq aT;exact aF rfl<|au (cg rfl hs fg)
  rw[ab9]at*;rw[if_neg (by simp),ac1];show W _ _ _ _ _ _ _ _;refine bg (b:=((hi++[x]).length:Int)==0) (by simp;omega) rfl ?_;have xm:(hi++[x]).length=hi.length+1:=by simp
  have eI:dq (hi++[x]) (IntKind.i64.wrap (((hi++[x]).length:Nat)-1))=some x:=by rw[wq,xm,show((hi.length+1:Nat):Int)-1=(hi.length:Nat)from by omega];unfold dq;rw[if_neg (by omega)];simp
  refine ar<|aX<|ai<|eO 6 [.z aq,.z aq] rfl<|fP (y:=x) aT eI rfl ?_;rintro b9 q9 ys aK rfl;refine Wp 1 rfl<|dE 1 [.e aK 13] rfl ?_;clear aK;refine aF rfl<|eO 2 [.z aq] rfl<|d_ rfl (KB _ o (hi++[x]) x.step _ oX) ?_;rintro g6 _ pw ⟨cs,rfl,dj⟩;replace hs:=hs.call pw;have ag:=pw.le;replace aq:=aq.mono ag;replace oX:=oX.mono ag;show WL _ _ _ _ _ _ _ _ _;simp only[ab5];cases V7:iu o x.step with
  |none=>
   rw[V7]at dj;obtain⟨a7,n7,c7,a8,n8,c8,rfl,fg,ij⟩:=dj;refine Wp 3 rfl<|fA hs rfl fun b4 g1 hs ag=>?_;obtain⟨aq,fg,ij⟩:=eS ag aq fg ij;refine dC 0 hs rfl fun g1 hs ag=>?_;obtain⟨aq,fg,ij⟩:=eS ag aq fg ij;exact aF rfl<|ak<|aD rfl<|bZ rfl<|aD rfl<|au (cg rfl hs (Rs.nil _))
  |some s=>
   rw[V7]at dj;replace dj:sR g6 cs s:=dj;obtain⟨a7,n7,c7,a8,n8,c8,rfl,fg,ij⟩:=dj;have Fi:s.next.length≤100000:=by
    cases o with
    |none=>cases SK
    |some f=>exact ho f rfl s (abm (np V7).2.2)
   refine Wp 3 rfl<|fA hs rfl fun b4 g1 hs ag=>?_;obtain⟨aq,ij⟩:=cA ag aq ij;replace oX:=oX.mono ag;refine dC 0 hs rfl fun g1 hs ag=>?_;obtain⟨aq,ij⟩:=cA ag aq ij;replace oX:=oX.mono ag;obtain⟨g2,fm,dm,ag,aK⟩:=hs.fM (i:=0) rfl;replace hs:=dm;clear dm;rw[←fm];obtain⟨aq,ij⟩:=cA ag aq ij;replace oX:=oX.mono ag;have aB:=aK;clear aK;refine aF rfl<|ak<|aD rfl<|bI rfl<|ar<|ai<|eO 2 [.z aB] rfl ?_;clear pw;refine d_ rfl (GX _ s.next _ ij (by omega)) ?_;rintro g7 v7 Af ⟨cells,hh,hr⟩;obtain rfl:cells=eB s.next:=cR.oP hr;obtain⟨a5,c5,rfl⟩:=hh.1.form;replace hs:=hs.jl Af hh;have ag:=Af.le;obtain⟨aq,aB⟩:=cA ag aq aB;replace oX:=oX.mono ag;clear hr hh Af;replace hs:St g g7 [.row 3 1 (.slice a5 s.next.length c5) s.next.length (eB s.next)]:=hs;clear fg ij aE bB aT eI;refine aF rfl<|ak<|ak ?_;cases GY:decide (0≤s.back)with
   |false=>
    have Qq:xj o (hi++[x]) x.step s=Lib.compact s.next:=by unfold xj;rw[if_neg (fun e=>(of_decide_eq_false GY) e.1)]
    apply aO hs (eA (.e (.bool false)::cV [])) 11 [(10,47)] (by kernel_rfl) rfl
    ·exact cY [[],[0]] [.z aB] hs rfl<|aW [(1,38)] (fun gd hf=>cj rfl (bj rfl (congrArg Value.bool GY)))<|mX [[2],[3],[3],[4,5,3,3],[3],[7,3],[6,8,3],[3,9]] [] hs rfl
    clear hs;intro g8 hs ag;obtain⟨aq,aB⟩:=cA ag aq aB;refine bE<|bI rfl<|ar<|ai<|ck 1 rfl<|nb rfl (rT (zs:=s.next) hs) ?_;(repeat clear hs);rintro g12 _ ag ⟨rfl,hs⟩;obtain⟨aq,aB⟩:=cA ag aq aB;obtain⟨g13,uL,uM,ag,uh⟩:=hs.cD (α:=Int) (i:=0) rfl (cR.ints _ _);rw[←uL];(repeat clear hs);have hs:=uM;clear uM;obtain⟨aq,aB⟩:=cA ag aq aB;clear uL;exact aF rfl<|au (cg rfl hs (show Rs _ _ (xj o (hi++[x]) x.step s)from by rw[Qq];exact uh))
   |true=>
    apply aO hs (eA (.e (.bool true)::cV [])) 11 [(10,47)] (by kernel_rfl) rfl
    ·exact cY [[],[0]] [.z aB] hs rfl<|aW [(1,38)] (fun gd hf=>cj rfl (bj rfl (congrArg Value.bool GY)))<|mX [[2],[3],[3],[4,5,3,3],[3],[7,3],[6,8,3],[3,9]] [.z aq,.c (cB 104) fun g' h=>SJ _ o (hi++[x]) x.step g' (oX.mono h) hl,.z aB] hs rfl
    clear hs;intro g8 hs ag;replace aB:=aB.mono ag;apply bE;cases O_:decide (xk o (hi++[x]) x.step<s.dv)with
    |false=>
     have Qq:xj o (hi++[x]) x.step s=Lib.compact s.next:=by unfold xj;rw[if_neg (fun e=>(of_decide_eq_false O_) e.2)]
     refine bI rfl<|ar<|ai<|ck 1 rfl<|nb rfl (rT (zs:=s.next) hs) ?_;(repeat clear hs);rintro g12 _ ag ⟨rfl,hs⟩;replace aB:=aB.mono ag;obtain⟨g13,uL,uM,ag,uh⟩:=hs.cD (α:=Int) (i:=0) rfl (cR.ints _ _);rw[←uL];(repeat clear hs);have hs:=uM;clear uM;replace aB:=aB.mono ag;clear uL;exact aF rfl<|au (cg rfl hs (show Rs _ _ (xj o (hi++[x]) x.step s)from by rw[Qq];exact uh))
    |true=>
     have Qq:xj o (hi++[x]) x.step s=Lib.compact (jI (s.next++[s.back])):=by unfold xj;rw[if_pos ⟨of_decide_eq_true GY,of_decide_eq_true O_⟩]
     refine bZ rfl<|eO 3 [.z aB] rfl<|iX [(0,vI s.back)] [vI s.back] hs rfl rfl fun b6 g9 hs ag=>aN rfl rfl<|ba T.ok 1 rfl hs rfl rfl rfl rfl rfl rfl rfl (by decide) rfl (Src.dZ (hs.own 0 _ rfl).1).2 (by simp[Value.oneCell']) (by show(s.next.length+1)*8≤_;omega) (by unfold maxLen;omega) fun a6 c6 g10 hs ag=>?_
     replace hs:St g g10 [.row 3 1 (.slice a6 (s.next.length+1) c6) (s.next.length+1) (eB (s.next++[s.back]))]:=by
      have:=hs.drop 0;have e:eB (s.next++[s.back])=eB s.next++[vI s.back]:=by simp[eB]
      rw[e];exact this
     refine aF rfl<|ah<|Wp 1 rfl<|nb rfl (FG (zs:=s.next++[s.back]) (by simp;omega) hs) ?_;(repeat clear hs);rintro g11 _ ag ⟨rfl,hs⟩;refine bE<|ck 1 rfl<|nb rfl (rT (zs:=jI (s.next++[s.back])) hs) ?_;(repeat clear hs);rintro g12 _ ag ⟨rfl,hs⟩;obtain⟨g13,uL,uM,ag,uh⟩:=hs.cD (α:=Int) (i:=0) rfl (cR.ints _ _);rw[←uL];(repeat clear hs);have hs:=uM;clear uM;clear uL;exact aF rfl<|au (cg rfl hs (show Rs _ _ (xj o (hi++[x]) x.step s)from by rw[Qq];exact uh))
theorem SL(b5:Nat)(kc:List Value)(o:Option aU)(h:List bc)(g:G)(aq:EP g b5 0 kc)(kn:RH g kc o h):cN prog 151 #[vP b5] g fun _ r=>r= .bool (!o.isSome):=by have hs:=St.start g;obtain⟨a1,n1,c1,a2,n2,c2,a3,c3,rfl,aE,bB,aT⟩:=kn;exact enter func151 rfl ntmps151 rfl<|aD rfl<|pW [.z aq] rfl<|au (cg rfl hs rfl)
theorem SM(b5 b4:Nat)(kc:List Value)(o:Option aU)(h:List bc)(a:gW)(g:G)(aq:EP g b5 0 kc)(aB:EP g b4 0 (oo a))(kn:RH g kc o h)(hl:h.length≤1000000)(ho:UL o):
  cN prog 152 #[vP b5,vP b4] g fun _ r=>r= .bool (o.isSome&& !(oL o h).contains a.step):=by
 have hs:=St.start g;have aj:=G.le.refl g;have oX:MG g (.agg kc.toArray) o h:=⟨kc,rfl,kn⟩;obtain⟨a1,n1,c1,a2,n2,c2,a3,c3,rfl,aE,bB,aT⟩:=kn;refine enter func152 rfl ntmps152 rfl<|aD rfl<|ak ?_;cases SK:o.isSome with
 |false=>
  rw[SK]at aq oX;apply aO hs (cV (eA [])) 10 [(9,12)] (by kernel_rfl) rfl
  ·exact mX [[],[0],[1],[2],[3,2,2],[2],[5,2],[4,6,4,2],[7,2],[2,8]] [.z aq] hs rfl
  clear hs;intro g6 hs ag;obtain⟨aq,aB⟩:=cA ag aq aB;exact aF rfl<|au (cg rfl hs rfl)
 |true=>
  rw[SK]at aq oX;apply aO hs (gR (.f (Fact.rs (oL o h))::gR (fe []))) 10 [(9,12)] (by kernel_rfl) rfl
  ·exact cY [[],[0],[1],[2]] [.z aq,.z aq] hs rfl<|aW [(3,6),(2,5),(2,5)] (fun gd hf=>dD rfl (ji rfl (KG _ o h gd (oX.mono ((G.a_ _).trans hf.le)) hl ho)))<|cY [[2],[5,2]] [.z aB] hs rfl<|aW [(4,7),(6,9),(4,7),(2,5)] (fun gd hf=>aI fun _ _=>bU rfl (aI fun v4 h4=>cj rfl (ji rfl (qO v4 (oL o h) a.step gd h4))))<|mX [[7,2],[2,8]] [] hs rfl
  clear hs;intro g6 hs ag;exact aF rfl<|au (cg rfl hs rfl)
theorem SN(b8 b7 b4:Nat)(is:Bool)(cs:List Value)(s:Step)(a:gW)(g:G)(aq:EP g b8 0 [.bool is])(aB:EP g b7 0 cs)(cF:EP g b4 0 (oo a))(dj:sR g cs s):
  cN prog 154 #[vP b8,vP b7,vP b4] g fun _ r=>r= .bool (is&& !s.cZ.contains a.tool):=by
 have hs:=St.start g;have aj:=G.le.refl g;obtain⟨a7,n7,c7,a8,n8,c8,rfl,fg,ij⟩:=dj;refine enter func154 rfl ntmps154 rfl ?_;cases is with
 |false=>
  exact aD rfl<|pW [.z aq] rfl<|au (cg rfl hs rfl)
 |true=>
  exact aD rfl<|eO 6 [.z aq,.z aB,.z cF] rfl<|jN rfl (qO _ s.cZ a.tool _ fg) hs fun g1 hs ag=>aF rfl<|au (cg rfl hs rfl)
theorem SO(b8 b7 b4:Nat)(is:Bool)(cs:List Value)(s:Step)(a:gW)(g:G)(aq:EP g b8 0 [.bool is])(aB:EP g b7 0 cs)(cF:EP g b4 0 (oo a))(dj:sR g cs s):
  cN prog 155 #[vP b8,vP b7,vP b4] g fun _ r=>r= .bool (is&&s.du !=a.rcp):=by
 have hs:=St.start g;have aj:=G.le.refl g;obtain⟨a7,n7,c7,a8,n8,c8,rfl,fg,ij⟩:=dj;refine enter func155 rfl ntmps155 rfl ?_;cases is with
 |false=>
  exact aD rfl<|pW [.z aq] rfl<|au (cg rfl hs rfl)
 |true=>
  exact aD rfl<|pW [.z aq,.z aB,.z cF] rfl<|au (cg rfl hs rfl)
theorem SP(b3 b4:Nat)(sl:Nat→Value)(b:ft)(a:gW)(g:G)(aq:EP g b3 0 ((List.range 11).map sl))(aB:EP g b4 0 (oo a))(aL:gJ g (.agg ((List.range 11).map sl).toArray) b):
  cN prog 156 #[vP b3,vP b4] g fun _ r=>r= .bool (!b.qu.any (iL a.tool a.cham a.rcp a.rvn a.time)):=by
 have hs:=St.start g;have aj:=G.le.refl g;exact enter func156 rfl ntmps156 rfl<|aD rfl<|eO 11 [.z aq,.z aB,.z aB,.z aB,.z aB,.z aB] rfl<|jN rfl (Ql _ b a.tool a.cham a.rcp a.rvn a.time _ aL) hs fun g1 hs ag=>aF rfl<|au (cg rfl hs rfl)
theorem SQ(b3 b4:Nat)(sl:Nat→Value)(b:ft)(a:gW)(g:G)(aq:EP g b3 0 ((List.range 11).map sl))(aB:EP g b4 0 (oo a))(aL:gJ g (.agg ((List.range 11).map sl).toArray) b)(hb:xF b):
  cN prog 158 #[vP b3,vP b4] g fun _ r=>r= .bool (decide ((0:Int)<((qB b a).length:Nat))):=by
 have hs:=St.start g;have aj:=G.le.refl g;refine enter func158 rfl ntmps158 rfl<|aD rfl<|eO 2 [.z aq,.z aB] rfl<|d_ rfl (NC _ b a _ aL hb) fun g1 _ aH hr=>?_;replace hs:=hs.call aH;have ag:=aH.le;obtain⟨a9,c9,rfl⟩:=hr.isSlice;exact aF rfl<|au (cg rfl hs rfl)
structure UM where
 num:Int
 fn:Value
 ok:Bool
instance:El UM where
 k:=2
 pos:=by omega
 rc g cs r:=cs=[vI r.num,r.fn]∧r.fn.oneCell'=true∧ ∀g',g.le g'→jX prog r.fn [] g'.w (ug g' fun _ v=>v= .bool r.ok)
 len h:=by rw[h.1];rfl
 mono hle h:=⟨h.1,h.2.1,fun g' h'=>h.2.2 g' (hle.trans h')⟩
 one h:=by
  rw[h.1];intro c hc;rcases aav.1 hc with rfl|hc
  ·rfl
  rw[aaL.1 hc];exact h.2.1
def pG(l:List UM):List Int:=(l.filter (·.ok)).map (·.num)
theorem SR(b9:Nat)(v:Value)(l:List UM)(g:G)(SS:EP g b9 0 [v])(Qr:Rs g v l):
  yH prog 160 #[vP b9] (fun n:Int=>[vI n]) (pG l) g:=by
 obtain⟨a,c,rfl⟩:=Qr.isSlice;intro g1 hle yv J Jx hJ VP hy Fx;have hlen:=Qr.ef;unfold maxLen at hlen;have aj:=G.le.refl g1;have aq:=SS.mono hle;have O1:=Qr.mono hle;refine enter func160 rfl ntmps160 rfl<|pW [.z aq] rfl<|aw ?_;refine aZ (fun m a' w=> ∃(k:Nat) (g':G),w=g'.w∧G.le g1 g'∧k≤l.length∧m=l.length-k∧J (pG (l.take k)) g'∧
   Fr 22 [] [(0,yv),(1,vP b9),(5,.slice a l.length c),(6,vI (l.length:Nat)),(7,vI (k:Nat))] a') l.length
  (fun a' ha=>⟨0,g1,rfl,aj,aar _,rfl,Fx,ha.kp rfl⟩) ?_
 clear aq aj;rintro m a' _ ⟨k,g',rfl,aj,hk,rfl,uE,dT⟩;have fg:=O1.mono aj;have hs:=St.start g';revert a';refine bT<|aD rfl<|ak ?_;by_cases aV:k<l.length
 ·refine aG (b:=decide ((k:Int)<(l.length:Int))) (by simp;omega) rfl ?_;have eI:=bM (n:=((k:Nat):Int)) rfl aV;have th:pG l=pG (l.take k)++(pG [l[k]]++pG (l.drop (k+1))):=by
   conv=>lhs;rw[←aaY k l,aa7 aV]
   unfold pG;rw[abe,←acr,abe,aa3,aa3]
  have ed:pG (l.take (k+1))=pG (l.take k)++pG [l[k]]:=by unfold pG;rw[aaX aV,abe,aa3]
  generalize l[k]=x at eI th ed;refine ar<|ai<|ak<|aw<|cO<|fP (y:=x) fg eI rfl ?_;rintro bq pq ys aK ⟨rfl,tu,H7⟩;have aB:=aK;clear aK;refine dE 1 [.e aB 0] rfl<|fA hs rfl fun bx g1 hs ag=>?_;obtain⟨aj,aB⟩:=cA ag aj aB;refine gw rfl<|eT T.ok 0 rfl hs rfl rfl rfl rfl rfl rfl (by show(true&&(x.fn.oneCell'&&true))=true;rw[tu];rfl) rfl rfl fun g2 hs ag=>?_;obtain⟨aj,aB⟩:=cA ag aj aB;obtain⟨g2,fm,dm,ag,aK⟩:=hs.fM (i:=0) rfl;replace hs:=dm;clear dm;rw[←fm];obtain⟨aj,aB⟩:=cA ag aj aB;(repeat clear aB);have aB:=aK;clear aK;refine bE<|eO 2 [.z aB] rfl<|aN rfl rfl<|fF rfl rfl rfl rfl rfl rfl (H7 _ ((G.le.refl g').trans hs.le)) ?_;rintro g4 _ nN rfl;replace hs:=hs.call nN;have ag:=nN.le;obtain⟨aj,aB⟩:=cA ag aj aB;cases kQ:x.ok with
  |false=>
   have e:pG [x]=[]:=by unfold pG;rw[abU,kQ];rfl
   rw[e,aaI]at ed;exact aF rfl<|bI rfl<|ar<|aX<|ai<|ah<|Wp 2 rfl<|an<|fun a ha=>⟨l.length-(k+1),by omega,k+1,_,rfl,aj,by omega,rfl,by rw[ed];exact hJ _ _ _ hs.p9 uE,ha.keep ⟨rfl,rfl,rfl,rfl,kW rfl,trivial⟩⟩
  |true=>
   have e:pG [x]=[x.num]:=by unfold pG;rw[abU,kQ];rfl
   rw[e]at ed th;refine dE 4 [.z aB] rfl ?_;have ME:=hJ _ _ _ hs.p9 uE;refine aN rfl rfl (fZ rfl rfl rfl rfl rfl rfl ((hy _ x.num _ _ th aj ME).mono ?_));rintro _ _ ⟨g5,bv,rfl,rfl,ag,ht,hf⟩;refine⟨_,rfl,?_⟩;(repeat clear hs);replace aj:=G.le.trans aj ag;cases bv with
   |false=>
    exact aF rfl<|bZ rfl<|au<|iy<|ec<|ec<|iy<|tA rfl<|⟨g5,_,rfl,rfl,aj,.inr ⟨_,⟨pG (l.drop (k+1)),by rw[aaG];exact th.symm⟩,hf rfl⟩⟩
   |true=>
    exact aF rfl<|bI rfl<|ar<|aX<|ai<|ah<|Wp 2 rfl<|an<|fun a ha=>⟨l.length-(k+1),by omega,k+1,_,rfl,aj,by omega,rfl,by rw[ed];exact ht rfl,ha.keep ⟨rfl,rfl,rfl,rfl,kW rfl,trivial⟩⟩
 refine bg (b:=decide ((k:Int)<(l.length:Int))) (by simp;omega) rfl<|aJ<|aM<|aM<|b_<|nd rfl ⟨g',_,rfl,rfl,aj,.inl ?_⟩;rw[aaD (by omega)]at uE;exact uE
def HK(b:ft)(a:gW)(o:Option aU)(h:List bc):List Bool:=
 [!o.isSome,o.isSome&& !(oL o h).contains a.step,(iu o a.step).isSome&& !((iu o a.step).getD lh).cZ.contains a.tool,(iu o a.step).isSome&&((iu o a.step).getD lh).du !=a.rcp,
  !b.qu.any (iL a.tool a.cham a.rcp a.rvn a.time),decide ((0:Int)<((qB b a).length:Nat))]
def H8(l:List Bool):List Int:=(([1,2,4,8,16,32]:List Int).zip l).filterMap fun p=>if p.2 then some p.1 else none
theorem Qs(f1 f2 f3 f4 f5 f6:Value)(c1 c2 c3 c4 c5 c6:Bool):pG [⟨1,f1,c1⟩,⟨2,f2,c2⟩,⟨4,f3,c3⟩,⟨8,f4,c4⟩,⟨16,f5,c5⟩,⟨32,f6,c6⟩]=H8 [c1,c2,c3,c4,c5,c6]:=by cases c1<;>cases c2<;>cases c3<;>cases c4<;>cases c5<;>cases c6<;>rfl
theorem H9(v u:Value)(b:ft)(a:gW)(o:Option aU)(h:List bc)(g:G)(aL:gJ g v b)(kn:MG g u o h)(hb:xF b)(hl:h.length≤1000000)(ho:UL o):cN prog 86 #[v,EL a,u] g fun g' r=> ∃b9 sv l,r= .func (.func 160) #[] #[vP b9]∧EP g' b9 0 [sv]∧Rs g' sv l∧pG l=H8 (HK b a o h)∧l.length=6:=by have hs:=St.start g;have aj:=G.le.refl g;obtain⟨sl,rfl,ee⟩:=aL;have aL:gJ g (.agg ((List.range 11).map sl).toArray) b:=⟨sl,rfl,ee⟩;obtain⟨kc,rfl,kn⟩:=kn;have oX:=kn;obtain⟨a1,n1,c1,a2,n2,c2,a3,c3,rfl,aE,bB,aT⟩:=kn;refine enter func86 rfl ntmps86 rfl<|cO<|gF hs rfl fun b3 g2 hs ag aK=>?_;obtain⟨aj,aL⟩:=cA ag aj aL;have dn:=aK;clear aK;refine gF hs rfl fun b4 g2 hs ag aB=>?_;obtain⟨aj,dn,aL⟩:=eS ag aj dn aL;refine gF hs rfl fun b5 g2 hs ag cF=>?_;obtain⟨aj,aB,dn,aL⟩:=dU ag aj aB dn aL;replace oX:=oX.mono aj;refine aF rfl<|eO 3 [.z cF,.z aB] rfl<|d_ rfl (KB _ o h a.step _ ⟨_,rfl,oX⟩) ?_;rintro g6 _ pw ⟨cs,rfl,dj⟩;replace hs:=hs.call pw;have ag:=pw.le;obtain⟨aB,cF,dn,aL⟩:=dU ag aB cF dn aL;replace oX:=oX.mono ag;unfold HK;generalize(iu o a.step).isSome=is at*;generalize(iu o a.step).getD lh=s at*;obtain⟨a7,n7,c7,a8,n8,c8,rfl,fg,ij⟩:=dj;clear aE bB aT pw;refine Wp 3 rfl<|fA hs rfl fun b7 g1 hs ag=>?_;obtain⟨aB,cF,fg,ij,dn,aL⟩:=iB ag aB cF fg ij dn aL;replace oX:=oX.mono ag;refine fA hs rfl fun b8 g1 hs ag=>?_;obtain⟨aB,cF,fg,ij,dn,aL⟩:=iB ag aB cF fg ij dn aL;replace oX:=oX.mono ag;refine dC 1 hs rfl fun g1 hs ag=>?_;obtain⟨aB,cF,fg,ij,dn,aL⟩:=iB ag aB cF fg ij dn aL;replace oX:=oX.mono ag;refine dC 0 hs rfl fun g1 hs ag=>?_;obtain⟨aB,cF,fg,ij,dn,aL⟩:=iB ag aB cF fg ij dn aL;replace oX:=oX.mono ag;obtain⟨g2,fm,dm,ag,aK⟩:=hs.fM (i:=0) rfl;replace hs:=dm;clear dm;rw[←fm];obtain⟨aB,cF,fg,ij,dn,aL⟩:=iB ag aB cF fg ij dn aL;have RI:=aK;clear aK;replace oX:=oX.mono ag;obtain⟨g2,fm,dm,ag,aK⟩:=hs.fM (i:=0) rfl;replace hs:=dm;clear dm;rw[←fm];obtain⟨aB,cF,fg,ij,dn,RI⟩:=iB ag aB cF fg ij dn RI;replace aL:=aL.mono ag;have UN:=aK;clear aK;replace oX:=oX.mono ag;refine bE<|ck 1 rfl<|hZ [(0,vI 1),(1,(.func (.func 151) #[] #[vP b5]))] [vI 1,(.func (.func 151) #[] #[vP b5])] [(0,1),(1,1)] rfl<|Wp 1 rfl<|hZ [(0,vI 2),(1,(.func (.func 152) #[] #[vP b5,vP b4]))] [vI 2,(.func (.func 152) #[] #[vP b5,vP b4])] [(0,1),(1,1)] rfl<|Wp 1 rfl<|hZ [(0,vI 4),(1,(.func (.func 154) #[] #[vP b8,vP b7,vP b4]))] [vI 4,(.func (.func 154) #[] #[vP b8,vP b7,vP b4])] [(0,1),(1,1)] rfl<|Wp 1 rfl<|hZ [(0,vI 8),(1,(.func (.func 155) #[] #[vP b8,vP b7,vP b4]))] [vI 8,(.func (.func 155) #[] #[vP b8,vP b7,vP b4])] [(0,1),(1,1)] rfl<|Wp 1 rfl<|hZ [(0,vI 16),(1,(.func (.func 156) #[] #[vP b3,vP b4]))] [vI 16,(.func (.func 156) #[] #[vP b3,vP b4])] [(0,1),(1,1)] rfl<|Wp 1 rfl<|hZ [(0,vI 32),(1,(.func (.func 158) #[] #[vP b3,vP b4]))] [vI 32,(.func (.func 158) #[] #[vP b3,vP b4])] [(0,1),(1,1)] rfl<|iX [(0,.agg #[vI 1,(.func (.func 151) #[] #[vP b5])]),(1,.agg #[vI 2,(.func (.func 152) #[] #[vP b5,vP b4])]),(2,.agg #[vI 4,(.func (.func 154) #[] #[vP b8,vP b7,vP b4])]),(3,.agg #[vI 8,(.func (.func 155) #[] #[vP b8,vP b7,vP b4])]),(4,.agg #[vI 16,(.func (.func 156) #[] #[vP b3,vP b4])]),(5,.agg #[vI 32,(.func (.func 158) #[] #[vP b3,vP b4])])] [vI 1,(.func (.func 151) #[] #[vP b5]),vI 2,(.func (.func 152) #[] #[vP b5,vP b4]),vI 4,(.func (.func 154) #[] #[vP b8,vP b7,vP b4]),vI 8,(.func (.func 155) #[] #[vP b8,vP b7,vP b4]),vI 16,(.func (.func 156) #[] #[vP b3,vP b4]),vI 32,(.func (.func 158) #[] #[vP b3,vP b4])] hs rfl rfl fun bl gl hs ag=>?_;obtain⟨aB,cF,fg,ij,dn,RI⟩:=iB ag aB cF fg ij dn RI;obtain⟨UN,aL⟩:=cA ag UN aL;replace oX:=oX.mono ag;obtain⟨gz,gX,dk,ag,H_⟩:=hs.cD (α:=UM) (xs:=[⟨1,(.func (.func 151) #[] #[vP b5]),(!o.isSome)⟩,⟨2,(.func (.func 152) #[] #[vP b5,vP b4]),(o.isSome&& !(oL o h).contains a.step)⟩,⟨4,(.func (.func 154) #[] #[vP b8,vP b7,vP b4]),(is&& !s.cZ.contains a.tool)⟩,⟨8,(.func (.func 155) #[] #[vP b8,vP b7,vP b4]),(is&&s.du !=a.rcp)⟩,⟨16,(.func (.func 156) #[] #[vP b3,vP b4]),(!b.qu.any (iL a.tool a.cham a.rcp a.rvn a.time))⟩,⟨32,(.func (.func 158) #[] #[vP b3,vP b4]),(decide ((0:Int)<((qB b a).length:Nat)))⟩]) (i:=0) rfl (⟨[vI 1,(.func (.func 151) #[] #[vP b5])],_,rfl,⟨rfl,rfl,fun g' h'=>dF (first:=#[]) (args:=[]) (captured:=#[vP b5]) (cB 151) rfl (SL b5 _ o h g' (cF.mono h') (oX.mono h'))⟩,⟨[vI 2,(.func (.func 152) #[] #[vP b5,vP b4])],_,rfl,⟨rfl,rfl,fun g' h'=>dF (first:=#[]) (args:=[]) (captured:=#[vP b5,vP b4]) (cB 152) rfl (SM b5 b4 _ o h a g' (cF.mono h') (aB.mono h') (oX.mono h') hl ho)⟩,⟨[vI 4,(.func (.func 154) #[] #[vP b8,vP b7,vP b4])],_,rfl,⟨rfl,rfl,fun g' h'=>dF (first:=#[]) (args:=[]) (captured:=#[vP b8,vP b7,vP b4]) (cB 154) rfl (SN b8 b7 b4 is _ s a g' (RI.mono h') (UN.mono h') (aB.mono h') ⟨a7,n7,c7,a8,n8,c8,rfl,fg.mono h',ij.mono h'⟩)⟩,⟨[vI 8,(.func (.func 155) #[] #[vP b8,vP b7,vP b4])],_,rfl,⟨rfl,rfl,fun g' h'=>dF (first:=#[]) (args:=[]) (captured:=#[vP b8,vP b7,vP b4]) (cB 155) rfl (SO b8 b7 b4 is _ s a g' (RI.mono h') (UN.mono h') (aB.mono h') ⟨a7,n7,c7,a8,n8,c8,rfl,fg.mono h',ij.mono h'⟩)⟩,⟨[vI 16,(.func (.func 156) #[] #[vP b3,vP b4])],_,rfl,⟨rfl,rfl,fun g' h'=>dF (first:=#[]) (args:=[]) (captured:=#[vP b3,vP b4]) (cB 156) rfl (SP b3 b4 sl b a g' (dn.mono h') (aB.mono h') (aL.mono h'))⟩,⟨[vI 32,(.func (.func 158) #[] #[vP b3,vP b4])],_,rfl,⟨rfl,rfl,fun g' h'=>dF (first:=#[]) (args:=[]) (captured:=#[vP b3,vP b4]) (cB 158) rfl (SQ b3 b4 sl b a g' (dn.mono h') (aB.mono h') (aL.mono h') hb)⟩,rfl⟩⟩⟩⟩⟩⟩);rw[←gX];clear hs;replace hs:=dk;clear dk;refine fA hs rfl fun b9 g1 hs ag=>?_;replace H_:=H_.mono ag;refine dC 0 hs rfl fun g1 hs ag=>?_;replace H_:=H_.mono ag;obtain⟨g2,fm,dm,ag,aK⟩:=hs.fM (i:=0) rfl;replace hs:=dm;clear dm;rw[←fm];replace H_:=H_.mono ag;exact bE<|aD rfl<|au (cg rfl hs ⟨b9,_,_,rfl,aK,H_,Qs _ _ _ _ _ _ _ _ _ _ _ _,rfl⟩)
def H'(l:List Int):Int:=l.foldl (fun s n=>IntKind.i64.wrap (s+n)) 0
def YE(o:Option aU)(h:List bc):Fact:=⟨fun v g=>MG g v o h,fun _ _ _ hf k=>k.mono hf.le⟩
def agF(xs:List Int):Fact:=⟨fun v g=> ∃b9 sv l,v= .func (.func 160) #[] #[vP b9]∧EP g b9 0 [sv]∧Rs g sv l∧pG l=xs∧l.length=6,
 fun _ _ _ hf ⟨b9,sv,l,e,h1,h2,h3⟩=>⟨b9,sv,l,e,h1.mono hf.le,h2.mono hf.le,h3⟩⟩
def pZ(b:ft)(a:gW)(h:List bc):Int:=H' (H8 (HK b a (gB b a.waf a.time) h))
structure EN(b:ft):Prop where
 size:xF b
 text:YC b
theorem DB{s:List UInt8}{f:aU}(h:lW s= .inl f):valid f=true:=by
 unfold lW at h;split at h
 ·split at h
  ·rename_i hv;cases h;exact hv
  cases h
 cases h
theorem qF{b:ft}{w time:Int}{f:aU}(h:gB b w time=some f):valid f=true:=by
 unfold gB at h;split at h
 ·cases h
 split at h
 ·cases h
 split at h
 ·rename_i hp;split at h
  ·cases h;exact DB hp
  cases h
 cases h
theorem FH{f:aU}(h:valid f=true): ∀s∈f.steps,s.next.length≤4:=by intro s hs;unfold valid at h;simp only[aaA,aa2]at h;have:=h.1.2 s hs;unfold bO at this;simp only[aaA,decide_eq_true_eq]at this;omega
theorem EN.SU{b:ft}(_:EN b)(w time:Int):UL (gB b w time):=fun f hf s hs=>aaC (FH (qF hf) s hs) (by decide)
theorem FI(v u:Value)(b:ft)(a:gW)(h:List bc)(g:G)(aL:gJ g v b)(aA:Rs g u h)(hb:EN b)(hl:h.length≤1000000)(cr:kr g):cN prog 34 #[v,EL a,u] g fun _ r=>r=vI (pZ b a h):=by
 have hs:=St.start g;have aj:=G.le.refl g;obtain⟨sl,rfl,ee⟩:=aL;have aL:gJ g (.agg ((List.range 11).map sl).toArray) b:=⟨sl,rfl,ee⟩;refine vK func34 rfl ntmps34 rfl<|cO<|gF hs rfl fun b3 g2 hs ag aq=>?_;obtain⟨aj,aA,aL,cr⟩:=dU ag aj aA aL cr;refine gF hs rfl fun b4 g2 hs ag aB=>?_;obtain⟨aj,aq,aA,aL,cr⟩:=mY ag aj aq aA aL cr;refine aF rfl<|cO<|fA hs rfl fun b7 g1 hs ag=>?_;obtain⟨aj,aq,aB,aA,aL,cr⟩:=iB ag aj aq aB aA aL cr;refine dC 0 hs rfl fun g1 hs ag=>?_;obtain⟨aj,aq,aB,aA,aL,cr⟩:=iB ag aj aq aB aA aL cr;replace hs:St g _ [.obj b7 (.cells #[vI 0] 3 (0,0))]:=hs;refine bE<|ak<|ak ?_;apply dP (cV (.f (YE (gB b a.waf a.time) h):: .f (agF (H8 (HK b a (gB b a.waf a.time) h)))::[])) 10 [(9,18)] (by kernel_rfl)
 ·exact cY [[],[],[],[],[3],[],[5],[]] [.z aq,.z aB,.z aq,.z aB,.z aB] hs rfl<|aW [(2,11),(4,13),(6,15),(7,16)] (fun gd hf=>su rfl (ji rfl (GW _ _ b a.waf a.time h gd (aL.mono ((G.a_ _).trans hf.le)) (aA.mono ((G.a_ _).trans hf.le)) hb.text (cr.mono ((G.a_ _).trans hf.le)))))<|aW [(0,9),(1,10),(8,17),(8,17)] (fun gd hf=>fD rfl (aI fun _ _=>aI fun v8 h8=>az (ji rfl (H9 _ v8 b a _ h gd (aL.mono ((G.a_ _).trans hf.le)) h8 hb.size hl (hb.SU _ _)))))<|fk
 intro g1 aH;refine aI fun v9 h9=>az ?_;replace hs:=hs.dr.call aH;have ag:=(G.a_ _).trans aH.le;replace aj:=G.le.trans aj ag;unfold pZ;generalize H8 (HK b a (gB b a.waf a.time) h)=xs at*;obtain⟨b9,sv,l,rfl,hp9,hr9,lG,hl6⟩:=h9;refine bE<|aw ?_
 refine yQ (N:=24) hs rfl (cB 160) (SR b9 sv l g1 hp9 hr9).YB rfl (fun _=>rfl)
  (fun pre L g'=>L=[.obj b7 (.cells #[vI (H' pre)] 3 (0,0))]∧G.le g g') (fun _ _ _ _=>False) (fun _ _ _ _ hle h=>⟨h.1,h.2.trans hle⟩) (fun _ _ _ _ _ _ h=>h) ⟨rfl,aj⟩
  (fun pre x L la g'=>la=[(7,vP b7),(8,vI x)]∧L=[.obj b7 (.cells #[vI (H' pre)] 3 (0,0))]∧G.le g g') (fun _ _ _ _ _ _ hle h=>⟨h.1,h.2.1,h.2.2.trans hle⟩) ?_ ?_ ?_ ?_
 ·rintro lp D ro pre x gr Lr M lG hle hs hI;exact ah<|Wp 1 rfl<|an<|fun a ha=>⟨gr,Lr,_,rfl,G.le.refl _,hs,⟨rfl,hI⟩,ha.kp rfl⟩
 ·rintro lp D ro pre x gr Lr la M lG hle hs ⟨rfl,rfl,aj⟩;have cM:=G.le.refl gr;refine aw<|ah<|Wm 3 [.o 2] hs rfl<|dC 2 hs rfl fun g1 hs ag=>?_;obtain⟨aj,cM⟩:=cA ag aj cM;exact an<|aX<|fun a ha=>⟨_,_,rfl,hs,cM,[.obj b7 (.cells #[vI (H' (pre++[x]))] 3 (0,0))],by unfold H';rw[abK];rfl,rfl,aj⟩
 ·rintro lp D o ys Lr ge rfl hle hs ⟨rfl,aj⟩;rw[lG]at hs;exact aX<|ai<|Ja [.o 2] hs rfl<|au<|Kw 1 rfl hs rfl rfl (fun g' kP gZ=>kP.ret rfl)
 rintro c lp D o pre Lr ge _ _ _ h;exact h.elim
theorem lV{b:ft}(hb:xF b)(w time:Int):(gi b w time).length≤1000000:=aaC (abq ..) (oQ hb w)
def yu(b:ft)(a:gW):Int:=pZ b a (gi b a.waf a.time)
theorem OV(v:Value)(b:ft)(a:gW)(g:G)(aL:gJ g v b)(hb:EN b)(cr:kr g):cN prog 17 #[v,EL a] g fun _ r=>r=vI (yu b a):=by
 have hs:=St.start g;have aj:=G.le.refl g;obtain⟨sl,rfl,ee⟩:=aL;have aL:gJ g (.agg ((List.range 11).map sl).toArray) b:=⟨sl,rfl,ee⟩;refine enter func17 rfl ntmps17 rfl<|cO<|gF hs rfl fun b2 g2 hs ag aq=>?_;obtain⟨aL,cr⟩:=cA ag aL cr;refine gF hs rfl fun b3 g2 hs ag aB=>?_;obtain⟨aq,aL,cr⟩:=eS ag aq aL cr;refine aF rfl<|ak ?_;apply aO hs (gR (eA (fe (.f (Fact.rs (gi b a.waf a.time))::fe [])))) 9 [(8,13)] (by kernel_rfl) rfl
 ·exact cY [[],[],[],[],[3],[],[5]] [.z aq,.z aB,.z aq,.z aB,.z aB] hs rfl<|aW [(2,7),(4,9),(6,11)] (fun gd hf=>dD rfl (ji rfl (Cd _ b a.waf a.time gd (aL.mono ((G.a_ _).trans hf.le)) hb.size)))<|aW [(0,5),(1,6),(7,12),(7,12)] (fun gd hf=>fD rfl (aI fun _ _=>aI fun v8 h8=>az (ji rfl (FI _ v8 b a _ gd (aL.mono ((G.a_ _).trans hf.le)) h8 hb (lV hb.size _ _) (cr.mono ((G.a_ _).trans hf.le))))))<|fk
 clear hs;intro g6 hs ag;exact aF rfl<|au (cg rfl hs rfl)
def wG(b:ft)(w time:Int):List Int:=oL (gB b w time) (gi b w time)
theorem B1(v:Value)(b:ft)(w time:Int)(g:G)(aL:gJ g v b)(hb:EN b)(cr:kr g):cN prog 15 #[v,vI w,vI time] g fun g' r=>Rs g' r (wG b w time):=by
 have hs:=St.start g;have aj:=G.le.refl g;obtain⟨sl,rfl,ee⟩:=aL;have aL:gJ g (.agg ((List.range 11).map sl).toArray) b:=⟨sl,rfl,ee⟩;refine enter func15 rfl ntmps15 rfl<|cO<|gF hs rfl fun b2 g2 hs ag aq=>?_;obtain⟨aL,cr⟩:=cA ag aL cr;refine aF rfl<|ak<|tD (l':=[(1,vI w),(2,vI time),(3,vP b2)]) (by(repeat (first|exact trivial|refine⟨rfl,?_⟩))) ?_;apply dP (gR (eA (.f (Fact.rs (gi b w time)):: .f (YE (gB b w time) (gi b w time)):: .f (Fact.rs (wG b w time))::[]))) 9 [(8,15)] (by kernel_rfl)
 ·exact cY [[],[],[],[],[],[]] [.z aq,.z aq] hs rfl<|aW [(3,10),(4,11),(5,12)] (fun gd hf=>dD rfl (ji rfl (Cd _ b w time gd (aL.mono ((G.a_ _).trans hf.le)) hb.size)))<|aW [(0,7),(1,8),(2,9),(6,13),(6,13)] (fun gd hf=>lJ rfl (aI fun _ _=>aI fun v6 h6=>az (ji rfl (GW _ v6 b w time _ gd (aL.mono ((G.a_ _).trans hf.le)) h6 hb.text (cr.mono ((G.a_ _).trans hf.le))))))<|aW [(7,14),(7,14)] (fun gd hf=>aI fun _ _=>aI fun v7 h7=>az (ji rfl (KG v7 _ _ gd h7 (lV hb.size _ _) (hb.SU _ _))))<|fk
 intro g1 aH;refine aI fun v9 h9=>az ?_;replace hs:=hs.dr.call aH;have ag:=(G.a_ _).trans aH.le;exact aF rfl<|au (cg rfl hs h9)
abbrev rI(v:Value)(xs:List Int):dc:=.row 3 1 v xs.length (eB xs)
def qf(g0:G)(v8 v9:Value)(xs ys:List Int)(x y:Int)(ρ:Nat→Option Value)(g:G):Prop:=
 match ρ 4,ρ 9 with
 |none,none=>St g0 g [rI v8 xs,rI v9 ys]
 |some v,none=>(∃a c,v= .slice a (xs.length+1) c)∧St g0 g [rI v (xs++[x]),rI v9 ys]
 |some v,some u=>(∃a c,v= .slice a (xs.length+1) c)∧(∃a c,u= .slice a (ys.length+1) c)∧St g0 g [rI v (xs++[x]),rI u (ys++[y])]
 |none,some _=>False
theorem FJ{g0:G}{v8 v9:Value}{xs ys:List Int}{x y:Int}(ρ:Nat→Option Value)(g g':G)(hf:bW g g')(h:qf g0 v8 v9 xs ys x y ρ g):qf g0 v8 v9 xs ys x y ρ g':=by
 unfold qf at h⊢;split at h
 ·exact h.call hf
 ·exact⟨h.1,h.2.call hf⟩
 ·exact⟨h.1,h.2.1,h.2.2.call hf⟩
 exact h
theorem xR(a:Option Addr)(c:Nat)(xs:List Int)(x:Int):rI (.slice a (xs.length+1) c) (xs++[x])= .row 3 1 (.slice a (xs.length+1) c) (xs.length+1) (eB xs++[vI x]):=by show dc.row _ _ _ (xs++[x]).length (eB (xs++[x]))=_;rw[aal];simp[eB]
theorem JY(v:Value)(b:ft)(w time:Int)(g:G)(aL:gJ g v b)(hb:EN b):cN prog 13 #[v,vI w,vI time] g fun g' r=> ∃v1 v2,r= .tuple #[v1,v2]∧Rs g' v1 ((gi b w time).map (·.step))∧Rs g' v2 ((gi b w time).map (·.idn)):=by
 have hs:=((St.start g).eM 3 1 none).eM 3 1 none;have aj:=G.le.refl g;obtain⟨sl,rfl,ee⟩:=aL;have aL:gJ g (.agg ((List.range 11).map sl).toArray) b:=⟨sl,rfl,ee⟩;refine enter func13 rfl ntmps13 rfl<|cO<|gF hs rfl fun b3 g2 hs ag aq=>?_;obtain⟨aj,aL⟩:=cA ag aj aL;refine aF rfl<|aD rfl<|ak<|eO 3 [.z aq] rfl<|d_ rfl (Cd _ b w time _ aL hb.size) fun g1 _ aH aA=>?_;replace hs:=hs.call aH;have ag:=aH.le;obtain⟨aj,aq⟩:=cA ag aj aq;have xm:=lV hb.size w time;generalize gi b w time=l at*;obtain⟨a,c,rfl⟩:=aA.isSlice;clear aH;replace hs:St g _ [rI (.slice none 0 0) [],rI (.slice none 0 0) []]:=hs;refine aF rfl<|aw ?_
 refine aZ (fun m a' w=> ∃(i:Nat) (a8 a9:Option Addr) (c8 c9:Nat) (g':G),w=g'.w∧St g g' [rI (.slice a8 i c8) ((l.take i).map (·.step)),rI (.slice a9 i c9) ((l.take i).map (·.idn))]∧G.le g g'∧Rs g' (.slice a l.length c) l∧i≤l.length∧m=l.length-i∧
   Fr 34 [] [(8,.slice a8 i c8),(9,.slice a9 i c9),(15,.slice a l.length c),(16,vI (l.length:Nat)),(17,vI (i:Nat))] a') l.length
  (fun a' ha=>⟨0,none,none,0,0,_,rfl,hs,aj,aA,aar _,rfl,ha.kp rfl⟩) ?_
 (repeat clear hs);(repeat clear aA);(repeat clear aj);(repeat clear aq);rintro m a' _ ⟨i,a8,a9,c8,c9,g',rfl,hs,aj,aA,hi,rfl,dT⟩;have h1:((l.take i).map (·.step)).length=i:=by rw[aaS,aat];omega
 have h2:((l.take i).map (·.idn)).length=i:=by rw[aaS,aat];omega
 revert a';refine bT<|aD rfl<|ak ?_;by_cases aV:i<l.length
 ·refine aG (b:=decide ((i:Int)<(l.length:Int))) (decide_eq_true (by omega)) rfl ?_;have eI:dq l (i:Int)=some l[i]:=bM rfl aV;have e1:(l.take (i+1)).map (·.step)=(l.take i).map (·.step)++[l[i].step]:=by rw[aaV,aas aV,aa3];rfl
  have e2:(l.take (i+1)).map (·.idn)=(l.take i).map (·.idn)++[l[i].idn]:=by rw[aaV,aas aV,aa3];rfl
  generalize(l.take i).map (·.step)=xs at hs h1 e1;generalize(l.take i).map (·.idn)=ys at hs h2 e2;generalize l[i]=x at eI e1 e2;refine ar<|ai<|ak<|aw<|cO<|fP (y:=x) aA eI rfl ?_;rintro b9 q9 OM aK rfl;have aq:=aK;clear aK;refine dE 1 [.e aq 0] rfl<|fA hs rfl fun zX g1 hs ag=>?_;obtain⟨aj,aA⟩:=cA ag aj aA;refine om 0 hs rfl fun g2 hs ag aB=>?_;obtain⟨aj,aA⟩:=cA ag aj aA;replace hs:St g _ [rI (.slice a8 i c8) xs,rI (.slice a9 i c9) ys]:=hs;apply bE;apply oU (eA (fe (.f (Fact.rs [x.step]):: .f Fact.any::eA (fe (.f (Fact.rs [x.idn]):: .f Fact.any::[]))))) 10 [(4,25),(9,30)] [4,9] [[],[]] (qf g (.slice a8 i c8) (.slice a9 i c9) xs ys x.step x.idn) FJ (by unfold qf;exact hs.dr) (by kernel_rfl) ⟨cw _,dw,cw _,dw,trivial⟩
  ·refine Um [[],[],[1]] [.z aB] (by kernel_rfl) rfl<|bA (cW (js:=[(2,23)]) (by kernel_rfl) rfl fun ρ g8 _ _ hle hJ=>c_ rfl (bh (ay rfl (iD T.ok rfl (St.start g8) (vs:=[(0,vI x.step)]) (cells:=[vI x.step]) rfl rfl rfl rfl rfl rfl (by decide) (by decide) (by kernel_rfl) rfl fun b g' kP _=>?_)))) ?_
   ·obtain⟨g2,e1,e2,e3⟩:=nz (α:=Int) kP (xs:=[x.step]) (cR.ints _ [x.step]);exact⟨g2,e1,e2,e3⟩
   refine bA (jW (js:=[(0,21),(3,24)]) (by kernel_rfl) rfl fun ρ g8 _ _ h3 hle hJ=>c_ rfl (db fun v5 h5=>bh ⟨rfl,?_⟩)) ?_
   ·unfold qf at hJ;rw[h3]at hJ;cases h9:ρ 9 with
    |some u=>rw[h9]at hJ;exact hJ.elim
    |none=>
     rw[h9]at hJ;replace h5:Rs g8 v5 [x.step]:=h5;obtain⟨a5,c5,rfl⟩:=h5.isSlice;obtain⟨_,news,hn,iO⟩:=Src.jh h5;obtain rfl:news=[vI x.step]:=by obtain⟨k1,k2,rfl,rfl,rfl⟩:=hn;rfl
     refine ba T.ok 0 rfl hJ rfl rfl rfl rfl rfl rfl rfl (by decide) rfl iO (by simp[Value.oneCell']) (by show((xs).length+1)*8≤_;omega) (by show(xs).length+1≤maxLen;unfold maxLen;omega) fun a' c' g9 MF Ku=>⟨g9,rfl,⟨Ku,?_⟩,trivial⟩
     have e4:uB ρ 4 (.slice a' (xs.length+1) c') 4=some (.slice a' (xs.length+1) c'):=if_pos rfl;have e9:uB ρ 4 (.slice a' (xs.length+1) c') 9=none:=(if_neg (by decide)).trans h9;show qf g _ _ xs ys x.step x.idn (uB ρ 4 (.slice a' (xs.length+1) c')) g9;unfold qf;rw[e4,e9];refine⟨⟨a',c',rfl⟩,?_⟩;rw[xR];exact MF
   refine Um [[],[],[6]] [.z aB] (by kernel_rfl) rfl<|bA (cW (js:=[(7,28)]) (by kernel_rfl) rfl fun ρ g8 _ _ hle hJ=>c_ rfl (bh (ay rfl (iD T.ok rfl (St.start g8) (vs:=[(0,vI x.idn)]) (cells:=[vI x.idn]) rfl rfl rfl rfl rfl rfl (by decide) (by decide) (by kernel_rfl) rfl fun b g' kP _=>?_)))) ?_
   ·obtain⟨g2,e1,e2,e3⟩:=nz (α:=Int) kP (xs:=[x.idn]) (cR.ints _ [x.idn]);exact⟨g2,e1,e2,e3⟩
   refine bA (jW (js:=[(5,26),(8,29)]) (by kernel_rfl) rfl fun ρ g8 _ RJ h3 hle hJ=>c_ rfl (db fun v5 h5=>bh ⟨rfl,?_⟩)) ?_
   ·unfold qf at hJ;rw[h3]at hJ;cases h4:ρ 4 with
    |none=>exact absurd h4 (RJ 4 rfl (by decide))
    |some u=>
     rw[h4]at hJ;obtain⟨hu,hJ⟩:=hJ;replace h5:Rs g8 v5 [x.idn]:=h5;obtain⟨a5,c5,rfl⟩:=h5.isSlice;obtain⟨_,news,hn,iO⟩:=Src.jh h5;obtain rfl:news=[vI x.idn]:=by obtain⟨k1,k2,rfl,rfl,rfl⟩:=hn;rfl
     refine ba T.ok 1 rfl hJ rfl rfl rfl rfl rfl rfl rfl (by decide) rfl iO (by simp[Value.oneCell']) (by show((ys).length+1)*8≤_;omega) (by show(ys).length+1≤maxLen;unfold maxLen;omega) fun a' c' g9 MF Ku=>⟨g9,rfl,⟨Ku,?_⟩,trivial⟩
     have e4:uB ρ 9 (.slice a' (ys.length+1) c') 4=some u:=(if_neg (by decide)).trans h4;have e9:uB ρ 9 (.slice a' (ys.length+1) c') 9=some (.slice a' (ys.length+1) c'):=if_pos rfl;show qf g _ _ xs ys x.step x.idn (uB ρ 9 (.slice a' (ys.length+1) c')) g9;unfold qf;rw[e4,e9];refine⟨hu,⟨a',c',rfl⟩,?_⟩;rw[xR];exact MF
   exact AT
  intro ρ g9 hle hJ dW;refine gT rfl fun v4 _ r4=>gT rfl fun v9 _ r9=>bh ?_;unfold qf at hJ;rw[r4,r9]at hJ;obtain⟨⟨a4,c4,rfl⟩,⟨a5,c5,rfl⟩,hs⟩:=hJ;have ag:=(G.a_ _).trans hle;obtain⟨aj,aA⟩:=cA ag aj aA;clear hle dW r4 r9 ρ;refine Wp 2 rfl<|an<|aX<|ai<|ah<|Wp 2 rfl<|an<|fun a ha=>⟨l.length-(i+1),by omega,i+1,a4,a5,c4,c5,g9,rfl,?_,aj,aA,by omega,rfl,ha.keep ⟨kV rfl (by rw[h1]),kV rfl (by rw[h2]),rfl,rfl,kW rfl,trivial⟩⟩
  rw[e1,e2];rw[h1,h2]at hs;exact hs
 refine bg (b:=decide ((i:Int)<(l.length:Int))) (decide_eq_false (by omega)) rfl ?_;obtain rfl:i=l.length:=by omega
 rw[aaD (by omega)]at hs;have hx:rI (.slice a8 l.length c8) (l.map (·.step))= .row 3 1 (.slice a8 l.length c8) (l.map (·.step)).length (eB (l.map (·.step))):=rfl;obtain⟨g7,Fe,EM,ag,V8⟩:=hs.cD (α:=Int) (xs:=l.map (·.step)) (i:=0) rfl (cR.ints _ _);obtain⟨g8,AK,oI,nM,V9⟩:=EM.cD (α:=Int) (xs:=l.map (·.idn)) (i:=0) rfl (cR.ints _ _);rw[←Fe,←AK];(repeat clear hs);have hs:=oI;clear oI EM;exact aJ<|aM<|aM<|b_<|ai<|aD rfl<|au (uv rfl rfl rfl (hs.ret ⟨_,_,rfl,V8.mono nM,V9⟩))
theorem KH(x p:bc)(b1:Nat)(g:G)(aq:EP g b1 0 (bK p)):cN prog 33 #[fv x,vP b1] g fun _ r=>r= .bool (x.idn==p.idn):=by have hs:=St.start g;refine enter func33 rfl ntmps33 rfl<|cO<|gF hs rfl fun b2 g2 hs ag aB=>?_;replace aq:=aq.mono ag;exact aF rfl<|pW [.z aB,.z aq] rfl<|au (cg rfl hs rfl)
def lg(b:ft)(p:bc):gW:=⟨qj b p.waf p.time,p.step,p.tool,p.cham,p.rcp,p.rvn,p.time⟩
def Qt(b:ft)(p:bc):List bc:=(mO b (lg b p).waf).takeWhile fun q=> !(q.idn==p.idn)
def qD(b:ft)(p:bc):Bool:=pZ b (lg b p) (Qt b p) !=0
def qC(b:ft):List Int:=Lib.compact (jI ((b.procs.filter (qD b)).map (·.idn)))
theorem KI{α:Type}{p:α→Bool}: ∀{l:List α},(∀x∈l,p x=false)→l.takeWhile (fun x=> !p x)=l
 |[],_=>rfl
 |x::l,h=>by rw[acb,h x (aaT ..)];show x::_=x::_;rw[KI fun y hy=>h y (aaR _ hy)]
theorem GZ{α:Type}{p:α→Bool}: ∀{l:List α} {k:Nat} (h:k<l.length),p l[k]=true→(∀j (h:j<l.length),j<k→p l[j]=false)→l.takeWhile (fun x=> !p x)=l.take k
 |x::l,0,_,hp,_=>by have hp:p x=true:=hp;rw[acb,hp];rfl
 |x::l,k+1,h,hp,dt=>by have h0:p x=false:=dt 0 (by simp) (by omega);rw[acb,h0];show x::_=x::_;rw[GZ (k:=k) (by simpa using h) hp fun j hj ER=>dt (j+1) (by simpa using hj) (by omega)]
theorem GK(v:Value)(b:ft)(g:G)(aL:gJ g v b)(hb:EN b)(cr:kr g):cN prog 10 #[v] g fun g' r=>Rs g' r (qC b):=by
 have hs:=(St.start g).eM 3 1 none;have aj:=G.le.refl g;obtain⟨sl,rfl,ee⟩:=aL;have aL:gJ g (.agg ((List.range 11).map sl).toArray) b:=⟨sl,rfl,ee⟩;have aA:Rs g (sl 0) b.procs:=ee 0 (by decide);obtain⟨a,c,SV⟩:=aA.isSlice;have hlen:b.procs.length≤1000000:=hb.size 0;refine enter func10 rfl ntmps10 rfl<|cO<|gF hs rfl fun b1 g2 hs ag aq=>?_;obtain⟨aj,aA,aL,cr⟩:=dU ag aj aA aL cr;replace hs:St g _ [rI (.slice none 0 0) []]:=hs;refine aF rfl<|aD rfl<|ak<|eO 2 [.z aq] rfl<|cT (.slice a b.procs.length c) (t:=10) rfl SV ?_;rw[SV]at aA;refine aF rfl<|aw ?_
 refine aZ (fun m a' w=> ∃(i:Nat) (a3:Option Addr) (c3:Nat) (xs:List Int) (g':G),w=g'.w∧St g g' [rI (.slice a3 xs.length c3) xs]∧G.le g g'∧Rs g' (.slice a b.procs.length c) b.procs∧EP g' b1 0 ((List.range 11).map sl)∧gJ g' (.agg ((List.range 11).map sl).toArray) b∧kr g'∧i≤b.procs.length∧((b.procs.take i).filter (qD b)).map (·.idn)=xs∧m=b.procs.length-i∧
   Fr 62 [] [(1,vP b1),(3,.slice a3 xs.length c3),(10,.slice a b.procs.length c),(11,vI (b.procs.length:Nat)),(12,vI (i:Nat))] a') b.procs.length
  (fun a' ha=>⟨0,none,0,[],_,rfl,hs,aj,aA,aq,aL,cr,aar _,rfl,rfl,ha.kp rfl⟩) ?_
 (repeat clear hs);(repeat clear aA);(repeat clear aj);(repeat clear aq);(repeat clear aL);(repeat clear cr);rintro m a' _ ⟨i,a3,c3,xs,g',rfl,hs,aj,aA,aq,aL,cr,hi,lG,rfl,dT⟩;have nL:xs.length≤i:=by rw[←lG,aaS];exact aaC (abq ..) (by rw[aat];omega)
 revert a';refine bT<|aD rfl<|ak ?_;by_cases aV:i<b.procs.length
 ·refine aG (b:=decide ((i:Int)<(b.procs.length:Int))) (decide_eq_true (by omega)) rfl ?_;have eI:dq b.procs (i:Int)=some b.procs[i]:=bM rfl aV;have ed:((b.procs.take (i+1)).filter (qD b)).map (·.idn)=xs++(if qD b b.procs[i]then [b.procs[i].idn]else []):=by rw[aaV,aas aV,abe,aa3,lG];congr 1;rw[acd,abU];split<;>rfl
  generalize b.procs[i]=x at eI ed;clear lG;refine ar<|ai<|ak<|aw<|cO<|fP (y:=x) aA eI rfl ?_;rintro b9 q9 OM aK rfl;have aB:=aK;clear aK;refine dE 1 [.e aB 0] rfl<|fA hs rfl fun b5 g1 hs ag=>?_;obtain⟨aj,aq,aB,aA,aL,cr⟩:=iB ag aj aq aB aA aL cr;refine om 0 hs rfl fun g2 hs ag aK=>?_;obtain⟨aj,aq,aB,aA,aL,cr⟩:=iB ag aj aq aB aA aL cr;(repeat clear aB);have aB:=aK;clear aK;replace hs:St g _ [rI (.slice a3 xs.length c3) xs]:=hs;refine bE<|ak ?_;have sT:=hs;apply dP (cV (cV (eA (.e (EL (lg b x)):: .f (Ia (G.dr _).w.heap.size [vI 0,vI 0,vI 0,vI 0,vI 0,vI 0,vI 0] 41)::[])))) 20 [(18,34),(19,6)] (by kernel_rfl)
  ·exact cY [[],[],[1],[],[3],[0,2,4],[],[6],[],[8],[],[10],[],[12],[],[14],[],[16]] [.z aq,.z aB,.z aB,.c (cB 30) fun g' h=>O' (.agg ((List.range 11).map sl).toArray) b x.waf x.time g' (aL.mono h) hb.size,.z aB,.z aB,.z aB,.z aB,.z aB,.z aB] hs rfl<|aW [(5,21),(7,23),(9,25),(11,27),(13,29),(15,31),(17,33)] (fun gd hf=>lJ rfl (su rfl (ay rfl (iS T.ok rfl (vs:=[(0,vI (qj b x.waf x.time)),(1,vI x.step),(2,vI x.tool),(3,vI x.cham),(4,vI x.rcp),(5,vI x.rvn),(6,vI x.time)]) (cells:=oo (lg b x)) rfl rfl rfl rfl [(0,1),(1,1),(2,1),(3,1),(4,1),(5,1),(6,1)] rfl (by kernel_rfl) (cC rfl)))))<|aW [] (fun gd hf=>az (ay rfl (ik T.ok rfl (St.start gd) rfl rfl fun b g' kP hle=>⟨g',rfl,kP.p9,b,rfl,aaC hf.below.size (kP.own 0 _ rfl).1,(kP.own 0 _ rfl).2⟩)))<|fk
  intro g1 aH;refine bU rfl (aI fun v6 h6=>az ?_);obtain⟨b6,rfl,Aj⟩:=h6;(repeat clear hs);have hs:=sT.dr.jl aH Aj;have ag:=(G.a_ _).trans aH.le;obtain⟨aj,aq,aB,aA,aL,cr⟩:=iB ag aj aq aB aA aL cr;clear sT Aj aH;refine om 0 hs rfl fun g2 hs ag cF=>?_;obtain⟨aj,aq,aB,aA,aL,cr⟩:=iB ag aj aq aB aA aL cr;replace hs:St g _ [rI (.slice a3 xs.length c3) xs]:=hs;refine bE<|eO 3 [.z aq,.z cF] rfl<|d_ rfl (Kz _ b (lg b x).waf _ aL hb.size) fun g6 _ pw cU=>?_;replace hs:=hs.call pw;have ag:=pw.le;obtain⟨aj,aq,aB,cF,aA,aL⟩:=iB ag aj aq aB cF aA aL;replace cr:=cr.mono ag;have PV:=oQ hb.size (lg b x).waf;have Pa:qD b x=(pZ b (lg b x) ((mO b (lg b x).waf).takeWhile fun q=> !(q.idn==x.idn)) !=0):=rfl;generalize mO b (lg b x).waf=hm at cU PV Pa;obtain⟨a7,c7,rfl⟩:=cU.isSlice;refine aF rfl<|ak<|ck 2 rfl ?_;clear pw;refine d_ rfl (yP _ _ hm (fun q=>q.idn==x.idn) _ cU (fun g' y _ h=>dF (first:=#[]) (args:=[fv y]) (captured:=#[vP b5]) (cB 33) rfl (KH y x b5 g' (aB.mono h)))) ?_;rintro g1 _ aH rfl;replace hs:=hs.call aH;have ag:=aH.le;obtain⟨aj,aq,aB,cF,aA,cU⟩:=iB ag aj aq aB cF aA cU;obtain⟨aL,cr⟩:=cA ag aL cr;clear aH;refine aF rfl<|aD rfl ?_;rcases pE (fun q:bc=>q.idn==x.idn) hm with⟨uD,dt⟩|⟨k,hk,uD,Cc,dt⟩
  ·rw[KI dt]at Pa;refine bg (b:=decide (0≤ox (fun q:bc=>q.idn==x.idn) hm)) (by rw[uD];rfl) rfl<|ar<|ai<|eO 3 [.z aq,.z cF] rfl<|d_ rfl (FI _ _ b (lg b x) (hm) _ aL cU hb PV cr) ?_;rintro g8 _ KA rfl;replace hs:=hs.call KA;have ag:=KA.le;obtain⟨aj,aq,aB,cF,aA,cU⟩:=iB ag aj aq aB cF aA cU;obtain⟨aL,cr⟩:=cA ag aL cr;refine aF rfl ?_;rw[Pa]at ed;cases hz:(pZ b (lg b x) (hm) !=0)with
   |false=>
    rw[hz]at ed;exact bI rfl<|ar<|aX<|ai<|ah<|Wp 2 rfl<|an<|fun a ha=>⟨b.procs.length-(i+1),by omega,i+1,a3,c3,xs,_,rfl,hs,aj,aA,aq,aL,cr,by omega,by rw[ed];exact aaI _,rfl,ha.keep ⟨rfl,rfl,rfl,rfl,kW rfl,trivial⟩⟩
   |true=>
    rw[hz]at ed;refine bZ rfl<|ah<|dE 3 [.z aB] rfl<|iX [(0,vI x.idn)] [vI x.idn] hs rfl rfl fun Mx g9 hs ag=>?_;obtain⟨aj,aq,aB,cF,aA,cU⟩:=iB ag aj aq aB cF aA cU;obtain⟨aL,cr⟩:=cA ag aL cr;refine aN rfl rfl<|ba T.ok 1 rfl hs rfl rfl rfl rfl rfl rfl rfl (by decide) rfl (Src.dZ (hs.own 0 _ rfl).1).2 (by simp[Value.oneCell']) (by show(xs.length+1)*8≤_;omega) (by show xs.length+1≤maxLen;unfold maxLen;omega) fun a6 c6 g10 hs ag=>?_;obtain⟨aj,aq,aB,cF,aA,cU⟩:=iB ag aj aq aB cF aA cU;obtain⟨aL,cr⟩:=cA ag aL cr;replace hs:St g g10 [rI (.slice a6 (xs.length+1) c6) (xs++[x.idn])]:=by rw[xR];exact hs.drop 0
    exact Wp 1 rfl<|an<|aX<|ai<|ah<|Wp 2 rfl<|an<|fun a ha=>⟨b.procs.length-(i+1),by omega,i+1,a6,c6,xs++[x.idn],_,rfl,by rw[show(xs++[x.idn]).length=xs.length+1 from by simp];exact hs,aj,aA,aq,aL,cr,by omega,ed,rfl,ha.keep ⟨rfl,kV rfl (by simp),rfl,rfl,kW rfl,trivial⟩⟩
  rw[GZ hk Cc dt]at Pa;refine aG (b:=decide (0≤ox (fun q:bc=>q.idn==x.idn) hm)) (by rw[uD];simp) rfl ?_;rw[uD];refine ah<|Wp 2 rfl ?_;obtain⟨_,Ry,O0⟩:=cU.mL;refine aN rfl rfl<|iA T.ok rfl rfl rfl rfl rfl (a:=0) (b:=k) rfl ⟨_,rfl⟩ (by omega) (by omega) ?_;replace cU:=cU.cut (a:=0) (b:=k) (by omega) (by omega);rw[ab']at cU;refine aF rfl<|eO 3 [.z aq,.z cF] rfl<|d_ rfl (FI _ _ b (lg b x) (hm.take k) _ aL cU hb (by rw[aat];omega) cr) ?_;rintro g8 _ KA rfl;replace hs:=hs.call KA;have ag:=KA.le;obtain⟨aj,aq,aB,aA,aL,cr⟩:=iB ag aj aq aB aA aL cr;refine aF rfl ?_;rw[Pa]at ed;cases hz:(pZ b (lg b x) (hm.take k) !=0)with
  |false=>
   rw[hz]at ed;exact bI rfl<|ar<|aX<|ai<|ah<|Wp 2 rfl<|an<|fun a ha=>⟨b.procs.length-(i+1),by omega,i+1,a3,c3,xs,_,rfl,hs,aj,aA,aq,aL,cr,by omega,by rw[ed];exact aaI _,rfl,ha.keep ⟨rfl,rfl,rfl,rfl,kW rfl,trivial⟩⟩
  |true=>
   rw[hz]at ed;refine bZ rfl<|ah<|dE 3 [.z aB] rfl<|iX [(0,vI x.idn)] [vI x.idn] hs rfl rfl fun Mx g9 hs ag=>?_;obtain⟨aj,aq,aA,aL,cr⟩:=mY ag aj aq aA aL cr;refine aN rfl rfl<|ba T.ok 1 rfl hs rfl rfl rfl rfl rfl rfl rfl (by decide) rfl (Src.dZ (hs.own 0 _ rfl).1).2 (by simp[Value.oneCell']) (by show(xs.length+1)*8≤_;omega) (by show xs.length+1≤maxLen;unfold maxLen;omega) fun a6 c6 g10 hs ag=>?_;obtain⟨aj,aq,aA,aL,cr⟩:=mY ag aj aq aA aL cr;replace hs:St g g10 [rI (.slice a6 (xs.length+1) c6) (xs++[x.idn])]:=by rw[xR];exact hs.drop 0
   exact Wp 1 rfl<|an<|aX<|ai<|ah<|Wp 2 rfl<|an<|fun a ha=>⟨b.procs.length-(i+1),by omega,i+1,a6,c6,xs++[x.idn],_,rfl,by rw[show(xs++[x.idn]).length=xs.length+1 from by simp];exact hs,aj,aA,aq,aL,cr,by omega,ed,rfl,ha.keep ⟨rfl,kV rfl (by simp),rfl,rfl,kW rfl,trivial⟩⟩
 refine bg (b:=decide ((i:Int)<(b.procs.length:Int))) (decide_eq_false (by omega)) rfl ?_;rw[aaD (by omega)]at lG;refine aJ<|aM<|aM<|b_<|ai<|ck 1 rfl<|nb rfl (FG (zs:=xs) (by omega) hs) ?_;(repeat clear hs);rintro g11 _ ag ⟨rfl,hs⟩;refine bE<|ck 1 rfl<|nb rfl (rT (zs:=jI xs) hs) ?_;(repeat clear hs);rintro g12 _ ag ⟨rfl,hs⟩;obtain⟨g13,uL,uM,ag,uh⟩:=hs.cD (α:=Int) (i:=0) rfl (cR.ints _ _);rw[←uL];(repeat clear hs);have hs:=uM;clear uM;clear uL;refine aF rfl<|au<|cg rfl hs ?_;unfold qC;rw[lG];exact uh
end Go.Proofs.YtkpojaffabjibaaGreatDoor
namespace Go.K
open Go Go.RowKit
variable {F:Fence} {P:Program} {N:Nat} {ds:List Deferred} {l l':Env} {a:Act} {w:World} {Q:Exit→Act→World→Prop} {ops:Array Oper} {os:List Oper} {o:Oper}
variable {g0 g:G} {L L':List dc} {K:Value→World→Prop} {R:Ending→World→Prop}
theorem cR.rU{news:List Value}: ∀{ys:List Int},cR g news ys→ ∀u∈news,u.oneCell'=true:=by
 intro ys
 induction ys generalizing news with
 |nil=>intro h;obtain rfl:news=[]:=h;intro u hu;cases hu
 |cons y ys ih=>
  intro h;obtain⟨k1,k2,rfl,h1,h2⟩:=h;obtain rfl:k1=[vI y]:=h1;intro u hu;rcases aaJ.1 hu with hu|hu
  ·obtain rfl:=aaL.1 hu;rfl
  exact ih h2 u hu
theorem oa{α:Type}[El α]{tb:Tb}(dS:tb.ok P){t e:Nat}{ti ei:TI}{s x:Operand}{ad QW:Option Addr}{n m c2:Nat}{xs ys:List α}
  (ho:o.op= .call {callee:=.builtin .append,args:=#[s,x],argTypes:=#[t,t]}) (hv:ev l s=some (.slice ad n n)) (hx:ev l x=some (.slice QW m c2)) (h1:Rs g (.slice ad n n) xs) (h2:Rs g (.slice QW m c2) ys)
  (hc: ∀news,cR g news ys→ ∀u∈news,u.oneCell'=true) (hi:tl tb t=some ti) (hd:ti.desc= .slice e) (hj:tl tb e=some ei) (hk:ei.size=El.k α) (hz:ei.zero.cells.size=El.k α) (hb:(n+m)*ei.bytes≤140737488355328) (GM:n+m≤maxLen)
  (kk: ∀v g',bW g g'→Rs g' v (xs++ys)→K v g'.w):cQ F P N ds o l g.w Q K:=by
 obtain⟨lH,QX,N_,pH⟩:=Src.jh h1;obtain⟨Dt,news,Lp,dm⟩:=Src.jh h2;by_cases hn:n=0
 ·subst hn;obtain rfl:xs=[]:=aa' lH.symm;refine ba dS 0 ho ((St.start g).eM e (El.k α) ad) rfl hv hx hi hd hj hk (El.pos (α:=α)) hz dm (hc news Lp) hb GM fun a' c' g' hs hle=>?_;obtain⟨g2,fm,Cu,_,uh⟩:=hs.cD (i:=0) rfl (xs:=ys) (by simpa using Lp.mono hle);have h:=kk _ g2 Cu.p9 uh;rw[fm]at h;exact h
 by_cases hm:m=0
 ·subst hm;obtain rfl:ys=[]:=aa' Dt.symm;obtain⟨b1,p1,rfl,Ry⟩:=pH.2.resolve_left hn;obtain⟨⟨dd,GD,he⟩,_⟩:=dS.at hi;rw[hd]at he;obtain rfl:=KD.of_slice he;obtain⟨_,inf,e1,e2,e3,e4⟩:=dS.at hj;have EU:(Builtin.firstCells inf.size 0 (.slice QW 0 c2)).run P g.w= .ok #[] g.w:=by cases QW<;>simp[Builtin.firstCells,loadCells,loadCellsFrom]
  refine gM ho (w':=g.w) (v:=.slice (some ⟨b1,p1,none⟩) n n) (fun a ha=>?_) (kk _ g (bW.refl g) (by rw[aaI];exact h1));simp[resolve,invoke,builtin,ha.ev hv,ha.ev hx,Builtin.append_,run_underlying GD,sizeOf,typeInfo,e1,Builtin.lenOf,EU,storeCells]
 exact qY dS ho hv hx h1 h2 hn hm hi hd hj hk hz hb GM kk
theorem A8{tb:Tb}(dS:tb.ok P){t e:Nat}{ti ei:TI}{x z u:Operand}{ad:Option Addr}{n c b m:Nat}{k2 k3:IntKind}(ho:o.op= .slice t x none (some z) (some u))(hi:tl tb t=some ti)(hd:ti.desc= .slice e)(hj:tl tb e=some ei)
  (hx:ev l x=some (.slice ad n c)) (hz:ev l z=some (.int k2 (b:Int))) (hu:ev l u=some (.int k3 (m:Int))) (h2:b≤m) (h3:m≤c)
  (k:K (.slice ad b m) w):cQ F P N ds o l w Q K:=by
 obtain⟨⟨dd,U1,he⟩,_⟩:=dS.at hi;rw[hd]at he;obtain rfl:=KD.of_slice he;obtain⟨_,inf,e1,e2,_⟩:=dS.at hj;refine bC (fun c=>⟨by rw[ho];simp,by rw[ho];simp⟩) (fun ac ha=>?_) k;have OS: ∀d:Addr,d.add 0=d:=fun d=>by cases d;simp[Addr.add]
 cases ad<;>simp[execOp,ho,ha.ev hx,ha.ev hz,ha.ev hu,Instr.sliceAt,run_underlying U1,Instr.slice,Instr.sliceBounds,Instr.sliceBound,asIntOf,sizeOf,typeInfo,e1,h2,h3,OS]
theorem Rs.full{α:Type}[El α]{ad:Option Addr}{n c k:Nat}{xs:List α}(h:Rs g (.slice ad n c) xs)(hk:k≤n):Rs g (.slice ad k k) (xs.take k):=by
 obtain⟨hn,qP,tG⟩:=h.mL;by_cases h0:k=0
 ·subst h0;exact⟨_,_,_,rfl,rfl,⟨aaz _,aar _⟩,.inl rfl⟩
 have hp:0<n:=by omega
 obtain⟨a,n',c',e,_,_,hr⟩:=h;obtain⟨rfl,rfl,rfl⟩:=aaO e;obtain⟨b,p,_,rfl,_⟩:=hr.resolve_left (by omega);have hb:=Rs.part (a:=0) (m:=k) (c':=k) ⟨_,_,_,rfl,hn,⟨qP,tG⟩,hr⟩ (by omega) (by omega) (aaz _) (by omega);rwa [abP,abj,ab']at hb
end Go.K
namespace Go.Proofs.YtkpojaffabjibaaGreatDoor
open Go Go.K Tryz
attribute [local irreducible] W WL cQ aP bG aR aQ aS cK ct
set_option maxRecDepth 10000
set_option maxHeartbeats 1000000
theorem Ff(v:Value)(l:List Int)(n:Int)(g:G)(aA:Rs g v l):cN prog 92 #[v,vI n] g fun _ r=>r= .bool (l.contains n):=by
 have hs:=St.start g;obtain⟨a,c,rfl⟩:=aA.isSlice;have hlen:=aA.ef;unfold maxLen at hlen;refine enter func92 rfl ntmps92 rfl<|aD rfl<|ak<|aD rfl<|aw ?_
 refine aZ (fun m a' w=> ∃(i:Nat),w=g.w∧i≤l.length∧(l.take i).contains n=false∧m=l.length-i∧
   Fr 18 [] [(0,.slice a l.length c),(1,vI n),(5,vI (i:Nat))] a') l.length
  (fun a' ha=>⟨0,rfl,aar _,by simp,rfl,ha.kp rfl⟩) ?_
 rintro m a' _ ⟨i,rfl,hi,dt,rfl,dT⟩;revert a';refine bT<|ak<|aD rfl ?_;by_cases aV:i<l.length
 ·refine aG (b:=decide ((i:Int)<(l.length:Int))) (decide_eq_true (by omega)) rfl ?_;have eI:dq l (i:Int)=some l[i]:=bM rfl aV;have ed:l.take (i+1)=l.take i++[l[i]]:=by rw[aaV,aas aV];rfl
  have kO:l[i]∈l:=aaQ aV;generalize l[i]=x at*;refine ar<|ai<|ak<|aw<|ck 2 rfl<|fP (y:=x) aA eI rfl fun b p ys aK fw=>?_;obtain rfl:ys=[vI x]:=fw;have aq:=aK;refine BS [.e aq 0] rfl ?_;by_cases hx:x=n
  ·subst hx;exact aG (b:=x==x) (by simp) rfl<|aD rfl<|au (cg rfl hs (by simp[kO]))
  exact bg (b:=x==n) (by simp[hx]) rfl<|ar<|aX<|ai<|ah<|Wp 3 rfl<|an<|fun a ha=>⟨l.length-(i+1),by omega,i+1,rfl,by omega,by rw[ed];simp at dt⊢;exact⟨dt,fun h=>hx h.symm⟩,rfl,ha.keep ⟨rfl,rfl,kW rfl,trivial⟩⟩
 refine bg (b:=decide ((i:Int)<(l.length:Int))) (decide_eq_false (by omega)) rfl ?_;rw[aaD (by omega)]at dt;exact aJ<|aM<|aM<|b_<|ai<|aD rfl<|au (cg rfl hs (by rw[dt]))
theorem PW(v:Value)(l:List Int)(n:Int)(g:G)(aA:Rs g v l):cN prog 272 #[v,vI n] g fun _ r=>r= .bool (l.contains n):=by
 have hs:=St.start g;obtain⟨a,c,rfl⟩:=aA.isSlice;have hlen:=aA.ef;unfold maxLen at hlen;refine enter func272 rfl ntmps272 rfl<|aD rfl<|ak<|aD rfl<|aw ?_
 refine aZ (fun m a' w=> ∃(i:Nat),w=g.w∧i≤l.length∧(l.take i).contains n=false∧m=l.length-i∧
   Fr 18 [] [(0,.slice a l.length c),(1,vI n),(5,vI (i:Nat))] a') l.length
  (fun a' ha=>⟨0,rfl,aar _,by simp,rfl,ha.kp rfl⟩) ?_
 rintro m a' _ ⟨i,rfl,hi,dt,rfl,dT⟩;revert a';refine bT<|ak<|aD rfl ?_;by_cases aV:i<l.length
 ·refine aG (b:=decide ((i:Int)<(l.length:Int))) (decide_eq_true (by omega)) rfl ?_;have eI:dq l (i:Int)=some l[i]:=bM rfl aV;have ed:l.take (i+1)=l.take i++[l[i]]:=by rw[aaV,aas aV];rfl
  have kO:l[i]∈l:=aaQ aV;generalize l[i]=x at*;refine ar<|ai<|ak<|aw<|ck 2 rfl<|fP (y:=x) aA eI rfl fun b p ys aK fw=>?_;obtain rfl:ys=[vI x]:=fw;have aq:=aK;refine BS [.e aq 0] rfl ?_;by_cases hx:x=n
  ·subst hx;exact aG (b:=x==x) (by simp) rfl<|aD rfl<|au (cg rfl hs (by simp[kO]))
  exact bg (b:=x==n) (by simp[hx]) rfl<|ar<|aX<|ai<|ah<|Wp 3 rfl<|an<|fun a ha=>⟨l.length-(i+1),by omega,i+1,rfl,by omega,by rw[ed];simp at dt⊢;exact⟨dt,fun h=>hx h.symm⟩,rfl,ha.keep ⟨rfl,rfl,kW rfl,trivial⟩⟩
 refine bg (b:=decide ((i:Int)<(l.length:Int))) (decide_eq_false (by omega)) rfl ?_;rw[aaD (by omega)]at dt;exact aJ<|aM<|aM<|b_<|ai<|aD rfl<|au (cg rfl hs (by rw[dt]))
def putAt(l:List Int)(n:Int):Nat:=(l.takeWhile fun x=>decide (x<n)).length
theorem qE{l:List Int}{n:Int}{k:Nat}(hk:k≤l.length)(h: ∀j (h:j<l.length),j<k→l[j]<n)(he: ∀h:k<l.length,¬l[k]<n):putAt l n=k:=by
 induction l generalizing k with
 |nil=>simp at hk;subst hk;rfl
 |cons x l ih=>
  unfold putAt;rw[acb];cases k with
  |zero=>rw[if_neg (by rw[decide_eq_true_eq];exact he (by simp))];rfl
  |succ k=>
   rw[if_pos (decide_eq_true (show x<n from h 0 (by simp) (by omega)))];exact congrArg (· +1) (ih (by simpa using hk) (fun j hj ER=>h (j+1) (by simpa using hj) (by omega)) (fun hh=>he (by simpa using hh)))
def km(l:List Int)(n:Int):List Int:=if l[putAt l n]? =some n then l else l.take (putAt l n)++n::l.drop (putAt l n)
def S2(n:Int):Fact:=⟨fun v g=> ∃b,v= .slice (vA b) 1 1∧Rs g v [n],fun _ _ _ hf ⟨b,e,h⟩=>⟨b,e,h.mono hf.le⟩⟩
theorem OO(v:Value)(l:List Int)(n:Int)(g:G)(aA:Rs g v l)(hl:l.length≤1000000):cN prog 40 #[v,vI n] g fun g' r=>Rs g' r (km l n):=by
 have hs:=St.start g;obtain⟨a,c,rfl⟩:=aA.isSlice;have KQ:=aA.mL;refine enter func40 rfl ntmps40 rfl<|aD rfl<|aD rfl<|ak<|aw ?_
 refine aZ (fun m a' w=> ∃(k:Nat),w=g.w∧k≤l.length∧(∀j (h:j<l.length),j<k→l[j]<n)∧m=l.length-k∧
   Fr 44 [] [(0,.slice a l.length c),(1,vI n),(5,vI (k:Nat))] a') l.length
  (fun a' ha=>⟨0,rfl,aar _,fun j h hj=>absurd hj (aco _),rfl,ha.kp rfl⟩) ?_
 rintro m a' _ ⟨k,rfl,hk,dt,rfl,dT⟩;revert a';refine bT<|ak<|ck 5 rfl ?_;cases h1:decide ((k:Int)<(l.length:Int))with
 |false=>
  have oO: ¬k<l.length:=by have:=of_decide_eq_false h1;omega
  refine aF rfl<|bI rfl<|aJ<|aM<|aM<|b_<|ai<|ak<|ck 5 rfl ?_;rw[h1];refine aF rfl<|bI rfl<|ar<|ai<|ak ?_;apply dP (eA (fe (.e (.slice a k k)::fe (.f (S2 n)::eA (.f (Fact.rs (l.drop k)):: .f (Fact.rs ([n]++l.drop k)):: .f (Fact.rs (l.take k++([n]++l.drop k)))::[]))))) 11 [(10,43)] (by kernel_rfl)
  ·refine cY [[],[],[]] [] hs rfl<|aW [(0,33),(1,34),(2,35)] (fun gd hf=>dD rfl (ay rfl (A8 T.ok rfl rfl rfl rfl rfl rfl rfl (aaz _) (by omega) (cC rfl))))<|cY [[]] [] hs rfl<|aW [(4,37)] (fun gd hf=>cj rfl (ay rfl (iD T.ok rfl (St.start gd) (vs:=[(0,vI n)]) (cells:=[vI n]) rfl rfl rfl rfl rfl rfl (by decide) (by decide) (by kernel_rfl) rfl fun b g' kP _=>?_))) ?_
   ·obtain⟨g2,e1,e2,e3⟩:=nz (α:=Int) kP (xs:=[n]) (cR.ints _ [n]);exact⟨g2,e1,e2,b,rfl,e3⟩
   refine cY [[],[]] [] hs rfl<|aW [(6,39),(7,40)] (fun gd hf=>bN rfl (ay rfl (iA T.ok rfl rfl rfl rfl rfl (a:=k) (b:=l.length) ⟨_,rfl⟩ rfl (by omega) (by omega) ⟨gd,rfl,bW.refl _,?_⟩))) ?_
   ·have h:=(aA.mono ((G.a_ _).trans hf.le)).cut (a:=k) (b:=l.length) (by omega) (aaz _);rwa [aa_]at h
   refine aW [(5,38),(8,41)] (fun gd hf=>aI fun v5 h5=>aI fun v8 h8=>az (ay rfl ?_)) ?_
   ·obtain⟨b5,rfl,h5⟩:=h5;replace h8:Rs gd v8 (l.drop k):=h8;obtain⟨a8,c8,rfl⟩:=h8.isSlice;have hd:(l.drop k).length≤2000000:=by rw[aaM];omega
    exact oa T.ok rfl rfl rfl h5 h8 (fun _ h=>h.rU) rfl rfl rfl rfl rfl (by show(1+(l.drop k).length)*8≤_;omega) (by unfold maxLen;omega) fun v g' hf h=>⟨g',rfl,hf,h⟩
   refine aW [(3,36),(9,42),(9,42)] (fun gd hf=>bU rfl (aI fun _ _=>aI fun v9 h9=>az (ay rfl ?_))) ?_
   ·replace h9:Rs gd v9 ([n]++l.drop k):=h9;obtain⟨a9,c9,rfl⟩:=h9.isSlice;have hd:([n]++l.drop k).length≤2000001:=by rw[aal,aaM];show 1+_≤_;omega
    exact oa T.ok rfl rfl rfl ((aA.mono ((G.a_ _).trans hf.le)).full (by omega)) h9 (fun _ h=>h.rU) rfl rfl rfl rfl rfl (by show(k+_)*8≤_;omega) (by unfold maxLen;omega) fun v g' hf h=>⟨g',rfl,hf,h⟩
   exact fk
  intro g1 aH;refine aI fun v10 ue=>az ?_
  (repeat clear hs);have hs:=(St.start g).dr.call aH;refine aF rfl<|au<|cg rfl hs ?_;unfold km;rw[qE (k:=k) (by omega) dt (fun h=>absurd h oO),if_neg (by rw[abx (by omega)];simp)];exact ue
 |true=>
  have oO:k<l.length:=by have:=of_decide_eq_true h1;omega
  have eI:dq l (k:Int)=some l[k]:=bM rfl oO;have mI:l[k]? =some l[k]:=aas oO;refine Wp 2 rfl<|fP (y:=l[k]) aA eI rfl fun b p ys aK fw=>?_;obtain rfl:ys=[vI l[k]]:=fw;have aq:=aK;refine BS [.e aq 0] rfl ?_;by_cases hx:l[k]<n
  ·refine aG (b:=decide (l[k]<n)) (decide_eq_true hx) rfl<|ar<|ai<|aw<|ah<|Wp 3 rfl<|an<|aX<|fun a ha=>⟨l.length-(k+1),by omega,k+1,rfl,by omega,fun j h hj=>?_,rfl,ha.keep ⟨rfl,rfl,kW rfl,trivial⟩⟩
   by_cases e:j=k
   ·subst e;exact hx
   exact dt j h (by omega)
  refine bg (b:=decide (l[k]<n)) (decide_eq_false hx) rfl ?_;clear aq;refine aJ<|aM<|aM<|b_<|ai<|ak<|ck 5 rfl ?_;rw[h1];refine Wp 2 rfl<|fP (y:=l[k]) aA eI rfl fun b p ys aK fw=>?_;obtain rfl:ys=[vI l[k]]:=fw;have aq:=aK;refine BS [.e aq 0] rfl ?_;by_cases he:l[k]=n
  ·refine aG (b:=l[k]==n) (by simp[he]) rfl<|aD rfl<|au<|cg rfl hs ?_;unfold km;rw[qE (k:=k) hk dt fun _=>hx,if_pos (by rw[mI,he])];exact aA
  refine bg (b:=l[k]==n) (by simp[he]) rfl<|ar<|ai<|ak ?_;apply dP (eA (fe (.e (.slice a k k)::fe (.f (S2 n)::eA (.f (Fact.rs (l.drop k)):: .f (Fact.rs ([n]++l.drop k)):: .f (Fact.rs (l.take k++([n]++l.drop k)))::[]))))) 11 [(10,43)] (by kernel_rfl)
  ·refine cY [[],[],[]] [] hs rfl<|aW [(0,33),(1,34),(2,35)] (fun gd hf=>dD rfl (ay rfl (A8 T.ok rfl rfl rfl rfl rfl rfl rfl (aaz _) (by omega) (cC rfl))))<|cY [[]] [] hs rfl<|aW [(4,37)] (fun gd hf=>cj rfl (ay rfl (iD T.ok rfl (St.start gd) (vs:=[(0,vI n)]) (cells:=[vI n]) rfl rfl rfl rfl rfl rfl (by decide) (by decide) (by kernel_rfl) rfl fun b g' kP _=>?_))) ?_
   ·obtain⟨g2,e1,e2,e3⟩:=nz (α:=Int) kP (xs:=[n]) (cR.ints _ [n]);exact⟨g2,e1,e2,b,rfl,e3⟩
   refine cY [[],[]] [] hs rfl<|aW [(6,39),(7,40)] (fun gd hf=>bN rfl (ay rfl (iA T.ok rfl rfl rfl rfl rfl (a:=k) (b:=l.length) ⟨_,rfl⟩ rfl (by omega) (by omega) ⟨gd,rfl,bW.refl _,?_⟩))) ?_
   ·have h:=(aA.mono ((G.a_ _).trans hf.le)).cut (a:=k) (b:=l.length) (by omega) (aaz _);rwa [aa_]at h
   refine aW [(5,38),(8,41)] (fun gd hf=>aI fun v5 h5=>aI fun v8 h8=>az (ay rfl ?_)) ?_
   ·obtain⟨b5,rfl,h5⟩:=h5;replace h8:Rs gd v8 (l.drop k):=h8;obtain⟨a8,c8,rfl⟩:=h8.isSlice;have hd:(l.drop k).length≤2000000:=by rw[aaM];omega
    exact oa T.ok rfl rfl rfl h5 h8 (fun _ h=>h.rU) rfl rfl rfl rfl rfl (by show(1+(l.drop k).length)*8≤_;omega) (by unfold maxLen;omega) fun v g' hf h=>⟨g',rfl,hf,h⟩
   refine aW [(3,36),(9,42),(9,42)] (fun gd hf=>bU rfl (aI fun _ _=>aI fun v9 h9=>az (ay rfl ?_))) ?_
   ·replace h9:Rs gd v9 ([n]++l.drop k):=h9;obtain⟨a9,c9,rfl⟩:=h9.isSlice;have hd:([n]++l.drop k).length≤2000001:=by rw[aal,aaM];show 1+_≤_;omega
    exact oa T.ok rfl rfl rfl ((aA.mono ((G.a_ _).trans hf.le)).full (by omega)) h9 (fun _ h=>h.rU) rfl rfl rfl rfl rfl (by show(k+_)*8≤_;omega) (by unfold maxLen;omega) fun v g' hf h=>⟨g',rfl,hf,h⟩
   exact fk
  intro g1 aH;refine aI fun v10 ue=>az ?_
  (repeat clear hs);have hs:=(St.start g).dr.call aH;refine aF rfl<|au<|cg rfl hs ?_;unfold km;rw[qE (k:=k) (by omega) dt (fun _=>hx),if_neg (by rw[mI];simpa using he)];exact ue
end Go.Proofs.YtkpojaffabjibaaGreatDoor

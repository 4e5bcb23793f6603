/- Parts of the proof, from: The walk through the reference's reached. -/
import Derived.Test.YtkpojaffabjibaaGreatDoorYm
namespace Go.Proofs.YtkpojaffabjibaaGreatDoor
open Go Go.K Tryz
attribute [local irreducible] W WL cQ aP bG aR aQ aS cK ct
set_option maxRecDepth 10000
set_option maxHeartbeats 1000000
structure sw(f:aU)(a:Int)(out:List Bool)(q:List Int)(E:Int→Prop):Prop where
 len:out.length=f.steps.length
 st:dh out a
 snd: ∀m,ib f m→dh out m→Dd f a m
 qr: ∀m∈q,ib f m∧dh out m
 cl: ∀m,ib f m→dh out m→m∈q∨E m∨ ∀c∈eU (aY f m),dh out c
theorem xH{α:Type}(o:List α)(i:Nat)(c:α→Value)(x:α)(h:i<o.length):nY (o.map c) (i*1) [c x]=(o.set i x).map c:=by rw[aaW,acu];unfold nY;rw[ace];simp[h]
theorem sw.start{f:aU}{a:Int}(ha:ib f a):sw f a ((List.replicate f.steps.length false).set a.toNat true) [a] fun _=>False:=by
 have h: ∀m,ib f m→(dh ((List.replicate f.steps.length false).set a.toNat true) m↔m=a):=fun m hm=>by rw[jj (by simp) ha hm];exact⟨fun h=>h.resolve_right fun h=>ic _ _ h,.inl⟩
 refine⟨by simp,(h a ha).2 rfl,fun m hm hi=>?_,fun m hm=>?_,fun m hm hi=>?_⟩
 ·rw[(h m hm).1 hi];exact .refl _
 ·rw[aaL]at hm;subst hm;exact⟨ha,(h m ha).2 rfl⟩
 rw[(h m hm).1 hi];simp
theorem sw.pop{f:aU}{a u:Int}{out:List Bool}{q:List Int}(h:sw f a out (u::q) fun _=>False):sw f a out q (· =u):=by
 refine⟨h.len,h.st,h.snd,fun m hm=>h.qr m (by simp[hm]),fun m hm hi=>?_⟩;rcases h.cl m hm hi with h|h|h
 ·rcases aav.1 h with h|h
  ·exact .inr (.inl h)
  exact .inl h
 ·exact h.elim
 exact .inr (.inr h)
theorem sw.add{f:aU}{a u c:Int}{out:List Bool}{q:List Int}(h:sw f a out q (· =u))(hu:ib f u)(OP:dh out u)(hc:ib f c)(Uy:c∈eU (aY f u)):
  sw f a (out.set c.toNat true) (q++[c]) (· =u):=by
 have hs: ∀m,ib f m→(dh (out.set c.toNat true) m↔m=c∨dh out m):=fun m hm=>jj h.len hc hm;have nZ: ∀m:Int,dh out m→dh (out.set c.toNat true) m:=fun m hm=>by
  unfold dh at hm⊢;rw[aaP]at hm⊢;rw[abG];split
  ·split<;>simp_all
  exact hm
 refine⟨by rw[abI];exact h.len,nZ _ h.st,fun m hm hi=>?_,fun m hm=>?_,fun m hm hi=>?_⟩
 ·rcases(hs m hm).1 hi with rfl|hi
  ·exact .step (h.snd u hu OP) Uy
  exact h.snd m hm hi
 ·rcases aaJ.1 hm with hm|hm
  ·exact⟨(h.qr m hm).1,nZ _ (h.qr m hm).2⟩
  rw[aaL]at hm;subst hm;exact⟨hc,(hs m hc).2 (.inl rfl)⟩
 rcases(hs m hm).1 hi with rfl|hi
 ·exact .inl (by simp)
 rcases h.cl m hm hi with h|h|h
 ·exact .inl (by simp[h])
 ·exact .inr (.inl h)
 exact .inr (.inr fun d hd=>nZ _ (h d hd))
theorem sw.done{f:aU}{a u:Int}{out:List Bool}{q:List Int}(h:sw f a out q (· =u))(hd: ∀c∈eU (aY f u),dh out c):sw f a out q fun _=>False:=by
 refine⟨h.len,h.st,h.snd,h.qr,fun m hm hi=>?_⟩;rcases h.cl m hm hi with h|h|h
 ·exact .inl h
 ·subst h;exact .inr (.inr hd)
 exact .inr (.inr h)
theorem HO{f:aU}{l r:List Bool}(hl:l.length=f.steps.length)(hr:r.length=f.steps.length)(h: ∀m,ib f m→(dh l m↔dh r m)):l=r:=by apply List.ext_getElem (by omega);intro i h1 h2;have hh:=h (i:Int) ⟨by omega,by omega⟩;unfold dh at hh;rw[aaP,aaP,abl,aas h1,aas h2]at hh;simp only[ab5]at hh;exact acD.2 hh
theorem sw.fin{f:aU}(cE:valid f=true){a:Int}(ha:ib f a){out:List Bool}(h:sw f a out [] fun _=>False):out=cp f a:=by
 refine HO h.len (qJ f a) fun m hm=>?_;rw[De cE ha hm];refine⟨h.snd m hm,fun hr=>?_⟩;clear hm
 induction hr with
 |refl=>exact h.st
 |step hb hc ih=>
  rcases h.cl _ (hb.Vr cE ha) ih with h|h|h
  ·simp at h
  ·exact h.elim
  exact h _ hc
def BY(v:Value)(q:List Int):dc:=.row 3 1 v q.length (q.map (Value.int .i64))
def M9(qa:Option Addr):Fact:=⟨fun v _=> ∃b p,qa=some ⟨b,p,none⟩∧v= .pointer (some ⟨b,p+Int.toNat 0*1,none⟩),fun _ _ _ _ h=>h⟩
theorem tk(v:Value)(f:aU)(n:Int)(g:G)(dx:eQ g v f)(cE:valid f=true)(h1:ib f n):
  cN prog 193 #[v,vI n] g (lj 4 g (cp f n)):=by
 obtain⟨a1,n1,c1,a2,n2,c2,rfl,aA,aE⟩:=id dx;obtain⟨_,_,e⟩:=aA.isSlice;obtain⟨rfl,rfl,rfl⟩:=aaO e;clear e;have hs:=St.start g;have aj:=G.le.refl g;have R6:=ux cE;have Ux:=h1.1;have z':=h1.2;refine enter func193 rfl ntmps193 rfl<|cO<|nX hs rfl fun bf g1 hs ag=>?_;replace dx:=dx.mono ag;refine aF rfl<|jd 3 [.o 0] hs rfl ?_;obtain⟨g2,fm,dm,ag,aK⟩:=hs.fM (i:=0) rfl;replace hs:=dm;clear dm;rw[←fm];replace dx:=dx.mono ag;have aq:=aK;clear aK;refine aN rfl rfl<|uy T.ok rfl hs rfl rfl rfl rfl rfl rfl (by decide) rfl (by show 1*f.steps.length≤_;omega) (by unfold maxLen;omega) fun ob gm hs ag=>?_;obtain⟨aq,dx⟩:=cA ag aq dx;refine aF rfl<|ck 2 rfl ?_;have qn:(List.replicate f.steps.length [Value.bool false]).flatten=(List.replicate f.steps.length false).map Value.bool:=by simp
 have dj:St g gm [ql ob f.steps.length (List.replicate f.steps.length false)]:=by unfold ql;rw[←qn];exact hs
 replace hs:=dj;clear dj;refine aN rfl rfl<|ea T.ok rfl (hs.own 0 _ rfl).1 Ux (by omega) rfl rfl rfl rfl rfl rfl fun b q hh=>?_;obtain⟨rfl,rfl⟩:ob=b∧0=q:=by simpa using hh
 refine gw rfl<|iC T.ok 0 (n.toNat*1) (us:=[.bool true]) rfl hs rfl rfl rfl rfl rfl rfl rfl (by decide) (by simp;omega) (xH _ _ Value.bool true (by simp;omega)) fun gm2 hs ag=>?_;obtain⟨aq,dx⟩:=cA ag aq dx;refine bE<|ck 1 rfl<|iX [(0,vI n)] [vI n] hs rfl rfl fun bl gl hs ag=>?_;obtain⟨aq,dx⟩:=cA ag aq dx;refine aF rfl<|ak<|aw ?_;have dj:St g gl [BY (.slice (vA bl) 1 1) [n],ql ob f.steps.length ((List.replicate f.steps.length false).set n.toNat true)]:=hs;replace hs:=dj;clear dj;have Aa:=sw.start h1
 have pg:([n]:List Int).length+((List.replicate f.steps.length false).set n.toNat true).count false=f.steps.length:=by have h:=jw (o:=List.replicate f.steps.length false) (i:=n.toNat) (by rw[ac3,if_pos (by omega)]);simp at h⊢;omega
 generalize(List.replicate f.steps.length false).set n.toNat true=o0 at*;have nt:=aq;have JL:=dx;have fE:=G.le.refl gl;refine aZ (fun m a' w=> ∃(q:List Int) (out:List Bool) (qv:Value) (g2:G),w=g2.w∧St g g2 [BY qv q,ql ob f.steps.length out]∧G.le gl g2∧sw f n out q (fun _=>False)∧q.length+out.count false≤f.steps.length∧m=q.length+out.count false∧
   Fr 56 [] [(1,vI n),(2,vP bf),(5,.slice (vA ob) f.steps.length f.steps.length),(6,qv)] a') f.steps.length
  (fun a' ha=>⟨[n],o0,_,gl,rfl,hs,fE,Aa,by omega,by omega,ha.kp rfl⟩) ?_
 clear hs fE aq aA aE dx Aa pg;rintro m a' _ ⟨q,out,qv,g2,rfl,hs,fE,hb,hle,rfl,dT⟩;have aq:=nt.mono fE;have dx:=JL.mono fE;obtain⟨qa,qc,rfl⟩:=(hs.own 0 _ rfl).1.form;revert a';refine bT<|ak<|aD rfl ?_;cases q with
 |nil=>
  refine bg (b:=decide ((0:Int)<(([]:List Int).length:Int))) (by simp) rfl<|aJ<|aM<|aM<|b_<|ai<|aD rfl<|au<|cg rfl hs ?_;rw[←hb.fin cE h1];exact hs.nu (i:=1) rfl (cR.JM _ _)
 |cons u rest=>
  refine aG (b:=decide ((0:Int)<((u::rest).length:Int))) (by simp) rfl ?_;obtain⟨AQ,OP⟩:=hb.qr u (by simp);replace hb:=hb.pop;have Uz:=AQ.1;have GD:=AQ.2;have tp:(u::rest).length≤qc:=by
   rcases(hs.own 0 _ rfl).1.2 with⟨h,_⟩|⟨b,p,cap,cur,e1,_,_,h2,_⟩
   ·simp at h
   simp only[aaK]at e1;omega
  refine ar<|ai<|aw<|ak ?_;apply dP (eA (.f (M9 qa)::(fe (.f (Fact.rs (eU (aY f u)))::(.f (Fact.rs (eU (aY f u)))::[]))))) 6 [(5,7)] (by kernel_rfl)
  ·refine cY [[],[]] [.e aq 0] (St.start _) rfl<|aW [(1,22)] (fun gd hf=>cj rfl (ay rfl (ea T.ok rfl ((hs.dr.call hf).own 0 _ rfl).1 (by decide) (by simp) rfl rfl rfl rfl rfl rfl (fun b p hh=>⟨_,rfl,bW.refl _,b,p,hh,rfl⟩))))<|aW [(2,23)] (fun gd hf=>?_) ?_
   ·have jk:=hs.dr.call hf;refine aI fun v2 h2=>?_;apply az;obtain⟨b,p,e,rfl⟩:=h2;subst e;exact ay rfl<|eW T.ok (Int.toNat 0*1) rfl (jk.own 0 _ rfl).1 rfl (v:=vI u) rfl<|⟨_,rfl,bW.refl _,rfl⟩
   refine aW [(0,21),(3,24)] (fun gd hf=>?_) ?_
   ·have eR:=(G.a_ _).trans hf.le;refine fD rfl<|az<|ay rfl<|bu (cB 244) bJ rfl rfl rfl rfl rfl (HN _ f u _ (dx.mono eR) cE AQ) fun g' v h1 h2=>?_
    obtain⟨g2,e1,e2,e3,e4⟩:=(St.start gd).lS h1 h2;exact⟨g2,e1,e2.p9,e4⟩
   exact aW [(4,25),(4,25),(4,25)] (fun gd hf=>aI fun v4 h4=>(aI fun v4 h4=>(aI fun v4 h4=>(az (bj rfl h4)))))<|fk
  intro g1 aH;refine aI fun v5 h5=>?_;apply az;replace hs:=hs.dr.call aH;have ag:=(G.a_ _).trans aH.le;obtain⟨fE,aq⟩:=cA ag fE aq;have aT:Rs g1 v5 (eU (aY f u)):=h5;clear h5;obtain⟨al,cl,rfl⟩:=aT.isSlice;have xm:=aT.ef;unfold maxLen at xm;have R7:=iz cE Uz GD;generalize tq:eU (aY f u)=l at*;refine bE<|ck 1 rfl<|aN rfl rfl<|iA T.ok rfl rfl rfl rfl rfl (a:=1) (b:=(u::rest).length) ⟨_,rfl⟩ rfl (by simp) tp ?_;replace hs:=hs.cutFrom (i:=0) (a:=1) rfl (by simp);refine aF rfl<|aD rfl<|aw ?_;have dj:St g g1 [BY (.slice (if qc=1 then qa else qa.map (·.add (1*1))) ((u::rest).length-1) (qc-1)) rest,ql ob f.steps.length out]:=hs;clear hs;have ZE:rest.length+out.count false+1=(u::rest).length+out.count false:=by simp;omega
  have py:=aq;have JN:=aT;have ou:=G.le.refl g1;refine aZ (fun m a' w=> ∃(i:Nat) (q:List Int) (o2:List Bool) (qv:Value) (g3:G),w=g3.w∧St g g3 [BY qv q,ql ob f.steps.length o2]∧G.le g1 g3∧sw f n o2 q (· =u)∧dh o2 u∧(∀c∈l.take i,dh o2 c)∧q.length+o2.count false=rest.length+out.count false∧i≤l.length∧m=l.length-i∧
    Fr 56 [] [(1,vI n),(2,vP bf),(5,.slice (vA ob) f.steps.length f.steps.length),(6,qv),(7,.slice al l.length cl),(8,vI i)] a') l.length
   (fun a' ha=>⟨0,rest,out,_,g1,rfl,dj,ou,hb,OP,by simp,rfl,aar _,rfl,ha.kp rfl⟩) ?_
  clear dj ou aq dx aT hb OP;rintro m a' _ ⟨i,q,o2,qv,g3,rfl,hs,ou,hb,OP,ES,M_,hi,rfl,dT⟩;have aq:=py.mono ou;have aT:=JN.mono ou;obtain⟨qb,qd,rfl⟩:=(hs.own 0 _ rfl).1.form;have JB:=hb.len;revert a';refine bT<|ak<|aD rfl ?_;by_cases aV:i<l.length
  ·refine aG (b:=decide ((i:Int)<(l.length:Int))) (decide_eq_true (by omega)) rfl ?_;have eI:=bM (xs:=l) (n:=(i:Int)) rfl aV;have I':l.take (i+1)=l.take i++[l[i]]:=aaX aV;have je:=aaQ aV;have Df:ib f l[i]:=R7 _ je;generalize l[i]=c at*;have pg:=Df.1;have Ry:=Df.2;have OQ:c.toNat<o2.length:=by omega
   have R8:dh o2 c↔o2[c.toNat]=true:=by unfold dh;rw[aaP,aas OQ];rfl
   refine ar<|ai<|ak<|aw<|ck 3 rfl<|fP (y:=c) aT eI rfl ?_;rintro b p ys aK rfl;refine dE 1 [.e aK 0] rfl ?_;clear aK;refine aN rfl rfl<|ea T.ok rfl (hs.own 1 _ rfl).1 pg (by omega) rfl rfl rfl rfl rfl rfl fun b p hh=>?_;obtain⟨rfl,rfl⟩:ob=b∧0=p:=by simpa using hh
   refine aN rfl rfl (eW T.ok (c.toNat*1) rfl (hs.own 1 _ rfl).1 rfl (v:=.bool o2[c.toNat]) (by show(List.map Value.bool _)[c.toNat*1]? =_;rw[aaW,abd,aas OQ];rfl) ?_);refine aF rfl ?_;cases X':o2[c.toNat]with
   |true=>
    refine bI rfl ?_;have PX: ∀d∈l.take (i+1),dh o2 d:=fun d hd=>by
     rw[I']at hd;rcases aaJ.1 hd with hd|hd
     ·exact ES d hd
     rw[aaL]at hd;subst hd;exact R8.2 X'
    exact ar<|aX<|ai<|ah<|Wp 3 rfl<|an<|fun a ha=>⟨l.length-(i+1),by omega,i+1,q,o2,_,_,rfl,hs,ou,hb,OP,PX,M_,by omega,rfl,ha.keep ⟨rfl,rfl,rfl,rfl,rfl,kW rfl,trivial⟩⟩
   |false=>
    refine bZ rfl ?_;have UA:=hb.add AQ OP Df (by rw[tq];exact je);have Vs:dh (o2.set c.toNat true) u:=(jj JB Df AQ).2 (.inr OP);have PX: ∀d∈l.take (i+1),dh (o2.set c.toNat true) d:=fun d hd=>by
     rw[I']at hd;rcases aaJ.1 hd with hd|hd
     ·exact(jj JB Df (R7 d (abX hd))).2 (.inr (ES d hd))
     rw[aaL]at hd;subst hd;exact(jj JB Df Df).2 (.inl rfl)
    have oR:=jw (o:=o2) (i:=c.toNat) (by rw[aas OQ,X']);refine ck 3 rfl<|fP (y:=c) aT eI rfl ?_;rintro b p ys aK rfl;refine dE 1 [.e aK 0] rfl ?_;clear aK;refine aN rfl rfl<|ea T.ok rfl (hs.own 1 _ rfl).1 pg (by omega) rfl rfl rfl rfl rfl rfl fun b p hh=>?_;obtain⟨rfl,rfl⟩:ob=b∧0=p:=by simpa using hh
    refine gw rfl<|iC T.ok 1 (c.toNat*1) (us:=[.bool true]) rfl hs rfl rfl rfl rfl rfl rfl rfl (by decide) (by simp;omega) (xH _ _ Value.bool true (by omega)) fun g9 hs ag=>?_;obtain⟨ou,aT⟩:=cA ag ou aT;refine bE<|ah<|Wp 3 rfl<|fP (y:=c) aT eI rfl ?_;rintro b p ys aK rfl;refine dE 1 [.e aK 0] rfl ?_;clear aK;refine iX [(0,vI c)] [vI c] hs rfl rfl fun bl gl hs ag=>?_;replace ou:=G.le.trans ou ag;refine aN rfl rfl<|ba T.ok 1 rfl hs rfl rfl rfl rfl rfl rfl rfl (by decide) rfl (Src.dZ (hs.own 0 _ rfl).1).2 (by simp[Value.oneCell']) (by show(q.length+1)*8≤_;simp at hle;omega) (by unfold maxLen;simp at hle;omega) fun a9 c9 g8 hs ag=>?_;replace ou:=G.le.trans ou ag;exact Wp 1 rfl<|an<|aX<|ai<|ah<|Wp 3 rfl<|an<|fun a ha=>⟨l.length-(i+1),by omega,i+1,q++[c],o2.set c.toNat true,.slice a9 (q.length+1) c9,_,rfl,by simpa [BY,ql,acu]using hs.drop 0,ou,UA,Vs,PX,by rw[aal];simp;omega,by omega,rfl,ha.keep ⟨rfl,rfl,rfl,rfl,rfl,kW rfl,trivial⟩⟩
  refine bg (b:=decide ((i:Int)<(l.length:Int))) (decide_eq_false (by omega)) rfl ?_;rw[aaD (by omega),←tq]at ES;exact aJ<|aM<|aM<|b_<|aX<|fun a ha=>⟨q.length+o2.count false,by omega,q,o2,_,_,rfl,hs,fE.trans ou,hb.done ES,by omega,rfl,ha.kp rfl⟩
theorem Ab{f:aU}{n x:Int}(h:x∈reach f n):ib f x:=by
 unfold reach at h;split at h
 ·have:=(yz.1 h).1;rw[qJ]at this;exact this
 simp at h
theorem Dg(v:Value)(f:aU)(n:Int)(g:G)(dx:eQ g v f):
  cN prog 191 #[v,vI n] g (lj 3 g (reach f n)):=by
 obtain⟨a1,n1,c1,a2,n2,c2,rfl,aA,aE⟩:=id dx;have hs:=St.start g;have aj:=G.le.refl g;refine enter func191 rfl ntmps191 rfl<|cO<|nX hs rfl fun b1 g1 hs ag=>?_;replace dx:=dx.mono ag;refine aF rfl<|ak<|jd 2 [.o 0] hs rfl ?_;obtain⟨g2,fm,dm,ag,aK⟩:=hs.fM (i:=0) rfl;replace hs:=dm;clear dm;rw[←fm];replace dx:=dx.mono ag;have aq:=aK;clear aK;refine jN rfl (JK _ f n _ dx) hs fun g1 hs ag=>?_;obtain⟨aq,dx⟩:=cA ag aq dx;refine aF rfl ?_;cases hg:given f [n]with
 |false=>
  refine bZ rfl<|aD rfl<|au<|cg rfl hs ?_;unfold reach;rw[hg];exact lj.nil _ _ _ _
 |true=>
  refine bI rfl ?_;obtain⟨cE,hn⟩:=lX.1 hg;have PY:=ux cE;refine ar<|ai<|eO 2 [.z aq] rfl<|d_ rfl (tk _ f n _ dx cE hn) fun g1 vo aH AR=>?_;obtain⟨gz,gX,dk,iw,bB⟩:=hs.lS aH AR;have ag:=aH.le.trans iw;rw[←gX];replace hs:=dk;clear dk AR;obtain⟨ab,cb,rfl⟩:=bB.isSlice;have ET:=fb f n;generalize sO:cp f n=bs at*;replace hs:=hs.eM 3 1 none;refine aF rfl<|aD rfl<|ak<|aD rfl<|aw ?_;have yA:=bB;have fE:=G.le.refl gz
  refine aZ (fun m a' w=> ∃(k:Nat) (g':G) (v:Value),w=g'.w∧St g g' [.row 3 1 v (iM 0 (bs.take k)).length ((iM 0 (bs.take k)).map (Value.int .i64))]∧G.le gz g'∧k≤bs.length∧m=bs.length-k∧
   Fr 30 [] [(5,.slice ab bs.length cb),(6,v),(7,vI k)] a') bs.length (fun a' ha=>⟨0,_,_,rfl,hs,fE,aar _,rfl,ha.kp rfl⟩) ?_
  clear hs fE bB;rintro m a' _ ⟨k,g',v,rfl,hs,fE,hk,rfl,dT⟩;have bB:=yA.mono fE;revert a';refine bT<|ak<|aD rfl ?_;by_cases aV:k<bs.length
  ·refine aG (b:=decide ((k:Int)<(bs.length:Int))) (decide_eq_true (by omega)) rfl ?_;have JD:=vC (bs.take k) 0;rw[aat]at JD;have oJ:=yB bs k aV;have eI:=bM (xs:=bs) (n:=(k:Int)) rfl aV;refine ar<|ai<|ak<|aw<|ck 2 rfl<|fP (y:=bs[k]) bB eI rfl ?_;rintro b p ys aK rfl;refine dE 1 [.e aK 0] rfl<|bE ?_;cases hb:bs[k]with
   |false=>
    refine bI rfl ?_;rw[hb,if_neg (by simp),aaI]at oJ;exact ar<|aX<|ai<|ah<|Wp 3 rfl<|an<|fun a ha=>⟨bs.length-(k+1),by omega,k+1,_,v,rfl,by rw[oJ];exact hs,fE,by omega,rfl,ha.keep ⟨rfl,rfl,kW rfl,trivial⟩⟩
   |true=>
    refine bZ rfl ?_;rw[hb,if_pos rfl]at oJ;refine ah<|Wp 2 rfl<|iX [(0,vI k)] [vI k] hs rfl rfl fun b2 g2 hs ag=>?_;replace fE:=G.le.trans fE ag;refine aN rfl rfl<|ba T.ok 1 rfl hs rfl rfl rfl rfl rfl rfl rfl (by decide) rfl (Src.dZ (hs.own 0 _ rfl).1).2 (by simp[Value.oneCell']) (by show((iM 0 (bs.take k)).length+1)*8≤_;omega) (by unfold maxLen;omega) fun a' c' g3 hs ag=>?_;replace fE:=G.le.trans fE ag;exact Wp 1 rfl<|an<|aX<|ai<|ah<|Wp 3 rfl<|an<|fun a ha=>⟨bs.length-(k+1),by omega,k+1,_,.slice a' ((iM 0 (bs.take k)).length+1) c',rfl,by rw[oJ];simpa using hs.drop 0,fE,by omega,rfl,ha.keep ⟨rfl,rfl,kW rfl,trivial⟩⟩
  refine bg (b:=decide ((k:Int)<(bs.length:Int))) (decide_eq_false (by omega)) rfl ?_;obtain rfl:k=bs.length:=by omega
  refine aJ<|aM<|aM<|b_<|ai<|aD rfl<|au<|cg rfl hs ?_;unfold reach;rw[hg,if_pos rfl,sO];rw[aa_]at hs;exact hs.nu (i:=0) rfl (cR.ints _ _)
theorem vD(l:List Int)(p:Int→Bool)(k:Nat)(h:k<l.length):(l.take (k+1)).filter p=(l.take k).filter p++(if p l[k]then [l[k]]else []):=by
 rw[aaX h,abe];congr 1;by_cases hp:p l[k]
 ·rw[if_pos hp,ac2 hp];rfl
 rw[if_neg hp,acS hp];rfl
theorem M'(v:Value)(f:aU)(g:G)(dx:eQ g v f):
  cN prog 192 #[v] g (lj 3 g (ends f)):=by
 obtain⟨a1,n1,c1,a2,n2,c2,rfl,aA,aE⟩:=id dx;obtain⟨_,_,e⟩:=aA.isSlice;obtain⟨rfl,rfl,rfl⟩:=aaO e;clear e;have hs:=St.start g;have aj:=G.le.refl g;refine enter func192 rfl ntmps192 rfl<|cO<|nX hs rfl fun b1 g1 hs ag=>?_;obtain⟨aA,dx⟩:=cA ag aA dx;refine aF rfl<|jd 1 [.o 0] hs rfl ?_;obtain⟨g2,fm,dm,ag,aK⟩:=hs.fM (i:=0) rfl;replace hs:=dm;clear dm;rw[←fm];obtain⟨aA,dx⟩:=cA ag aA dx;have aq:=aK;clear aK;refine d_ rfl (Dg _ f 0 _ dx) fun g1 vo aH AR=>?_;obtain⟨gz,gX,dk,iw,bB⟩:=hs.lS aH AR;have ag:=aH.le.trans iw;rw[←gX];replace hs:=dk;clear dk AR;obtain⟨aq,aA⟩:=cA ag aq aA;obtain⟨ab,cb,rfl⟩:=bB.isSlice;have ET:=rK f 0;unfold ends;have JO: ∀n∈reach f 0,ib f n:=fun n hn=>Ab hn;have PY:(reach f 0).length≤40:=by
  by_cases hv:valid f=true
  ·have:=ux hv;omega
  have:reach f 0=[]:=by unfold reach;rw[if_neg (fun h=>hv (lX.1 h).1)]
  rw[this];simp
 generalize sO:reach f 0=l at*;replace hs:=hs.eM 3 1 none;refine aF rfl<|aD rfl<|ak<|aD rfl<|aw ?_;have yA:=bB;have nt:=aq;have ot:=aA;have fE:=G.le.refl gz
 refine aZ (fun m a' w=> ∃(k:Nat) (g':G) (v:Value),w=g'.w∧St g g' [.row 3 1 v ((l.take k).filter fun n=>p_ (aY f n)).length (((l.take k).filter fun n=>p_ (aY f n)).map (Value.int .i64))]∧G.le gz g'∧k≤l.length∧m=l.length-k∧
  Fr 33 [] [(1,vP b1),(3,.slice ab l.length cb),(4,v),(5,vI k)] a') l.length (fun a' ha=>⟨0,_,_,rfl,hs,fE,aar _,rfl,ha.kp rfl⟩) ?_
 clear hs fE bB aq aA dx aE;rintro m a' _ ⟨k,g',v,rfl,hs,fE,hk,rfl,dT⟩;have bB:=yA.mono fE;have aq:=nt.mono fE;have aA:=ot.mono fE;revert a';refine bT<|ak<|aD rfl ?_;by_cases aV:k<l.length
 ·refine aG (b:=decide ((k:Int)<(l.length:Int))) (decide_eq_true (by omega)) rfl ?_;have oJ:=vD l (fun n=>p_ (aY f n)) k aV;have qn:((l.take k).filter fun n=>p_ (aY f n)).length≤k:=aaC (abq _ _) (by rw[aat];omega);have eI:=bM (xs:=l) (n:=(k:Int)) rfl aV;have mP:=JO _ (aaQ aV);generalize l[k]=n at*;generalize(l.take k).filter (fun n=>p_ (aY f n))=fl at*;refine ar<|ai<|ak<|aw<|ak ?_;apply aO hs (gR (.f (BZ n)::(fe (.f (xI 0 (aY f n))::(.f (xI 4 (aY f n))::(.f (Fact.rs (aY f n).next)::(eA []))))))) 11 [(10,24)] (by kernel_rfl) rfl
  ·refine cY [[],[0],[],[]] [.e aq 2] (St.start _) rfl<|aW [(2,16),(3,17)] (fun gd hf=>?_) ?_
   ·have eR:=(G.a_ _).trans hf.le;exact fD rfl<|az<|ay rfl<|dJ T.ok rfl (bB.mono eR) (y:=n) eI rfl rfl rfl rfl rfl rfl fun b p ys aK fw=>⟨_,rfl,bW.refl _,b,p,rfl,by rw[←show ys=[Value.int .i64 n]from fw];exact aK⟩
   refine aW [(4,18)] (fun gd hf=>?_) ?_
   ·skip;refine aI fun v4 h4=>?_;apply az;obtain⟨b,p,rfl,aK⟩:=h4;refine ay rfl<|cu T.ok 0 rfl aK rfl rfl<|⟨_,rfl,bW.refl _,?_⟩;exact rfl
   refine aW [(1,15),(5,19)] (fun gd hf=>?_) ?_
   ·have eR:=(G.a_ _).trans hf.le;exact fD rfl<|az<|ay rfl<|dJ T.ok rfl (aA.mono eR) (y:=aY f n) (rJ mP) rfl rfl rfl rfl rfl rfl fun b p ys aK fw=>⟨_,rfl,bW.refl _,b,p,ys,rfl,aK,fw⟩
   refine aW [(6,20)] (fun gd hf=>?_) ?_
   ·skip;refine aI fun v6 h6=>?_;apply az;obtain⟨b,p,ys,rfl,aK,fw⟩:=h6;exact ay rfl<|bR _ T.ok rfl<|⟨_,rfl,bW.refl _,b,p,ys,rfl,aK,fw⟩
   refine aW [(7,21)] (fun gd hf=>?_) ?_
   ·skip;refine aI fun v7 h7=>?_;apply az;obtain⟨b,p,ys,rfl,aK,fw⟩:=h7;obtain⟨b1,b2,b3,b4,b5,b6,rfl,Fg,R1⟩:=fw;exact ay rfl<|cu T.ok 4 rfl aK rfl rfl<|⟨_,rfl,bW.refl _,R1⟩
   refine aW [(8,22)] (fun gd hf=>?_) ?_
   ·skip;refine aI fun v8 h8=>?_;apply az;obtain⟨a5,c5,rfl⟩:=Rs.isSlice h8;refine ay rfl<|bR _ T.ok rfl<|⟨_,rfl,bW.refl _,?_⟩;exact rfl
   exact aW [(9,23)] (fun gd hf=>cj rfl (bj rfl (congrArg Value.bool (show _=p_ (aY f n)from rfl))))<|fk
  clear hs;intro g1 hs ag;obtain⟨fE,bB⟩:=cA ag fE bB;apply bE;cases hb:p_ (aY f n)with
  |false=>
   refine bI rfl ?_;rw[hb,if_neg (by simp),aaI]at oJ;exact ar<|aX<|ai<|ah<|Wp 3 rfl<|an<|fun a ha=>⟨l.length-(k+1),by omega,k+1,_,v,rfl,by rw[oJ];exact hs,fE,by omega,rfl,ha.keep ⟨rfl,rfl,rfl,kW rfl,trivial⟩⟩
  |true=>
   refine bZ rfl ?_;rw[hb,if_pos rfl]at oJ;refine ah<|Wp 3 rfl<|fP (y:=n) bB eI rfl ?_;rintro b p ys aK rfl;refine dE 1 [.e aK 0] rfl<|iX [(0,vI n)] [vI n] hs rfl rfl fun b2 g2 hs ag=>?_;replace fE:=G.le.trans fE ag;refine aN rfl rfl<|ba T.ok 1 rfl hs rfl rfl rfl rfl rfl rfl rfl (by decide) rfl (Src.dZ (hs.own 0 _ rfl).1).2 (by simp[Value.oneCell']) (by show(fl.length+1)*8≤_;omega) (by unfold maxLen;omega) fun a' c' g3 hs ag=>?_;replace fE:=G.le.trans fE ag;exact Wp 1 rfl<|an<|aX<|ai<|ah<|Wp 3 rfl<|an<|fun a ha=>⟨l.length-(k+1),by omega,k+1,_,.slice a' (fl.length+1) c',rfl,by rw[oJ];simpa using hs.drop 0,fE,by omega,rfl,ha.keep ⟨rfl,rfl,rfl,kW rfl,trivial⟩⟩
 refine bg (b:=decide ((k:Int)<(l.length:Int))) (decide_eq_false (by omega)) rfl ?_;obtain rfl:k=l.length:=by omega
 refine aJ<|aM<|aM<|b_<|ai<|aD rfl<|au<|cg rfl hs ?_;rw[aa_]at hs;exact hs.nu (i:=0) rfl (cR.ints _ _)
set_option maxHeartbeats 2000000
theorem HP(n:Nat):(List.replicate n [Value.int .i64 0]).flatten=(List.replicate n (0:Int)).map (Value.int .i64):=by simp
def B0(ob N:Nat)(l:List Int):dc:=.row 3 1 (.slice (vA ob) N N) N (l.map (Value.int .i64))
theorem uz{l:List Int}{c:Int}(_h0:0≤c)(h:c.toNat<l.length):(l.map (Value.int .i64))[c.toNat*1]? =some (vI (dg l c)):=by unfold dg;rw[aaW,abd,aaP,aas h];rfl
theorem HQ(v lv:Value)(f:aU)(live:List Bool)(first:Int)(g:G)(dx:eQ g v f)(bB:Rs g lv live)(cE:valid f=true)(hl:live.length=f.steps.length)(hf:ib f first)(Fh:dh live first):
  cN prog 194 #[v,lv,vI first] g fun g' r=>Rs g' r (eh f live first):=by
 obtain⟨a1,n1,c1,a2,n2,c2,rfl,aA,aE⟩:=id dx;obtain⟨_,_,e⟩:=aA.isSlice;obtain⟨rfl,rfl,rfl⟩:=aaO e;clear e;obtain⟨al,cl,rfl⟩:=bB.isSlice;have hs:=St.start g;have aj:=G.le.refl g;have R6:=ux cE;have OR:=hf.1;have aH:=hf.2;refine enter func194 rfl ntmps194 rfl<|cO<|nX hs rfl fun bf g1 hs ag=>?_;obtain⟨aA,bB⟩:=cA ag aA bB;refine aF rfl<|jd 3 [.o 0] hs rfl ?_;obtain⟨g2,fm,dm,ag,aK⟩:=hs.fM (i:=0) rfl;replace hs:=dm;clear dm;rw[←fm];obtain⟨aA,bB⟩:=cA ag aA bB;have aq:=aK;clear aK;refine aN rfl rfl<|uy T.ok rfl hs rfl rfl rfl rfl rfl rfl (by decide) rfl (by show 8*f.steps.length≤_;omega) (by unfold maxLen;omega) fun ob gm hs ag=>?_;obtain⟨aq,aA,bB⟩:=eS ag aq aA bB;refine aF rfl<|ak<|aD rfl<|aw ?_;have dj:St g gm [B0 ob f.steps.length (List.replicate f.steps.length 0)]:=by unfold B0;rw[←HP];exact hs
 replace hs:=dj;clear dj;have xJ:=lK.begin f live OR;generalize List.replicate f.steps.length (0:Int)=R9 at*;have nt:=aq;have ot:=aA;have yA:=bB;have fE:=G.le.refl gm;refine aZ (fun m a' w=> ∃(d:Nat) (dist:List Int) (g2:G),w=g2.w∧St g g2 [B0 ob f.steps.length dist]∧G.le gm g2∧lK f live first dist d first.toNat∧1≤d∧d≤f.steps.length+1∧m=f.steps.length+1-d∧
   Fr 162 [] [(1,.slice al live.length cl),(2,vI first),(3,vP bf),(7,.slice (vA ob) f.steps.length f.steps.length),(8,vI d)] a') f.steps.length
  (fun a' ha=>⟨1,R9,gm,rfl,hs,fE,xJ,aaz _,by omega,by omega,ha.kp rfl⟩) ?_
 clear hs fE aq aA aE bB dx xJ;rintro m a' _ ⟨d,dist,g2,rfl,hs,fE,xJ,ZF,Yc,rfl,dT⟩;have aq:=nt.mono fE;have aA:=ot.mono fE;have bB:=yA.mono fE;revert a';refine bT<|ak<|pW [.z aq] rfl ?_;by_cases aV:d≤f.steps.length
 ·refine aG (b:=decide ((d:Int)≤(f.steps.length:Int))) (decide_eq_true (by omega)) rfl<|ar<|ai<|ak<|aw<|aD rfl<|aw ?_;have py:=aq;have JP:=aA;have vE:=bB;have ou:=G.le.refl g2
  refine aZ (fun m a' w=> ∃(u:Nat) (dist:List Int) (g3:G),w=g3.w∧St g g3 [B0 ob f.steps.length dist]∧G.le g2 g3∧lK f live first dist d u∧first.toNat≤u∧u≤f.steps.length∧m=f.steps.length-u∧
    Fr 162 [] [(1,.slice al live.length cl),(2,vI first),(3,vP bf),(7,.slice (vA ob) f.steps.length f.steps.length),(8,vI d),(9,vI u)] a') (f.steps.length-first.toNat)
   (fun a' ha=>⟨first.toNat,dist,g2,rfl,hs,ou,xJ,aaz _,by omega,by omega,ha.keep ⟨rfl,rfl,rfl,rfl,rfl,kJ rfl,trivial⟩⟩) ?_
  clear hs ou aq aA bB xJ;rintro m a' _ ⟨u,dist,g3,rfl,hs,ou,xJ,Na,hu,rfl,dT⟩;have aq:=py.mono ou;have aA:=JP.mono ou;have bB:=vE.mono ou;have UB:=xJ.len;revert a';refine bT<|ak<|pW [.z aq] rfl ?_;by_cases hlu:u<f.steps.length
  ·refine aG (b:=decide ((u:Int)<(f.steps.length:Int))) (decide_eq_true (by omega)) rfl ?_;have AQ:ib f (u:Int):=⟨by omega,by omega⟩;have Uz:=AQ.1;have HR:=bM (xs:=live) (n:=(u:Int)) rfl (by omega);have ET:dh live (u:Int)↔live[u]=true:=by unfold dh;rw[aaP,abl,aas (by omega)];rfl
   generalize live[u]=lb at*;refine ar<|ai<|ak<|aw<|ak<|ck 2 rfl<|fP (y:=lb) bB HR rfl ?_;rintro b q ys aK rfl;refine dE 1 [.e aK 0] rfl ?_;clear aK;cases lb with
   |false=>
    have PK:=xJ.skip (.inl (fun h=>by simpa using ET.1 h));exact aF rfl<|bZ rfl<|aJ<|aM<|b_<|ai<|ah<|Wp 3 rfl<|an<|fun a ha=>⟨f.steps.length-(u+1),by omega,u+1,dist,_,rfl,hs,ou,PK,by omega,by omega,rfl,ha.keep ⟨rfl,rfl,rfl,rfl,rfl,kW rfl,trivial⟩⟩
   |true=>
    have Vt:=ET.2 rfl;refine Wp 4 rfl<|aN rfl rfl<|ea T.ok rfl (hs.own 0 _ rfl).1 Uz (by omega) rfl rfl rfl rfl rfl rfl fun b q hh=>?_;obtain⟨rfl,rfl⟩:ob=b∧0=q:=by simpa using hh
    refine aN rfl rfl<|eW T.ok ((u:Int).toNat*1) rfl (hs.own 0 _ rfl).1 rfl (v:=vI (dg dist u)) (uz Uz (by omega)) ?_;by_cases nv:0<dg dist u
    ·have PK:=xJ.skip (.inr (by omega));exact aF rfl<|aG (b:=decide ((0:Int)<dg dist u)) (decide_eq_true nv) rfl<|aJ<|aM<|b_<|ai<|ah<|Wp 3 rfl<|an<|fun a ha=>⟨f.steps.length-(u+1),by omega,u+1,dist,_,rfl,hs,ou,PK,by omega,by omega,rfl,ha.keep ⟨rfl,rfl,rfl,rfl,rfl,kW rfl,trivial⟩⟩
    have hz:dg dist u=0:=by
     rcases xJ.val u AQ with h|⟨e,h,_⟩
     ·exact h
     omega
    refine aF rfl<|bg (b:=decide ((0:Int)<dg dist u)) (decide_eq_false nv) rfl ?_;have ZG:=xJ.leave cE AQ Vt (by omega) hz;have mP:=oS cE AQ;have JD: ∀l,(pz first d dist u l).length=f.steps.length:=fun l=>by rw[JQ,UB]
    have I': ∀l (c:Int),0≤c→pz first d dist u (l++[c])=if nw first d (pz first d dist u l) c=true then(pz first d dist u l).set u (d:Int)else pz first d dist u l:=fun l c hc=>HS hz (by omega) hc
    have Yd:pz first d dist u []=dist:=rfl;refine ar<|ai<|eO 3 [.z aq] rfl<|fP (y:=aY f u) aA (rJ AQ) rfl ?_;rintro b q ys aK ⟨b1,b2,b3,b4,b5,b6,rfl,_,bV⟩;obtain⟨_,_,e⟩:=bV.isSlice;obtain⟨rfl,rfl,rfl⟩:=aaO e;clear e;refine aN rfl rfl<|bR _ T.ok rfl<|dE 1 [.e aK 4] rfl ?_;clear aK;refine aF rfl<|aD rfl<|aw ?_;have Fi:=bV.ef;unfold maxLen at Fi;have PZ:=aq;have Vu:=aA;have P1:=bV;have cM:=G.le.refl g3
    refine aZ (fun m a' w=> ∃(i:Nat) (g4:G),w=g4.w∧St g g4 [B0 ob f.steps.length (pz first d dist u ((aY f u).next.take i))]∧G.le g3 g4∧i≤(aY f u).next.length∧m=(aY f u).next.length-i∧
      Fr 162 [] [(1,.slice al live.length cl),(2,vI first),(3,vP bf),(7,.slice (vA ob) f.steps.length f.steps.length),(8,vI d),(9,vI u),(10,.slice b4 (aY f u).next.length b6),(11,vI i)] a') (aY f u).next.length
     (fun a' ha=>⟨0,g3,rfl,by rw[List.take_zero,Yd];exact hs,cM,aar _,rfl,ha.kp rfl⟩) ?_
    clear hs cM aq aA bV bB xJ Yd;rintro m a' _ ⟨i,g4,rfl,hs,cM,hi,rfl,dT⟩;have aq:=PZ.mono cM;have aA:=Vu.mono cM;have bV:=P1.mono cM;revert a';refine bT<|ak<|aD rfl ?_;by_cases Rz:i<(aY f u).next.length
    ·refine aG (b:=decide ((i:Int)<((aY f u).next.length:Int))) (decide_eq_true (by omega)) rfl ?_;have eI:=bM (xs:=(aY f u).next) (n:=(i:Int)) rfl Rz;have Df:ib f (aY f u).next[i]:=mP _ (aaQ Rz);have oJ:=I' ((aY f u).next.take i) (aY f u).next[i] Df.1;have ZH:=JD ((aY f u).next.take i);rw[←aaX Rz]at oJ;generalize pz first d dist u ((aY f u).next.take i)=tb at*;generalize(aY f u).next[i]=c at*;have pg:=Df.1;have Ry:=Df.2;refine ar<|ai<|ak<|aw<|ck 3 rfl ?_;by_cases Vv:d=1
     ·refine bd 62 (b':=true) (by simpa using(show(d:Int)=1 from by omega)) rfl<|Wp 2 rfl<|fP (y:=c) bV eI rfl ?_;rintro b q ys aK rfl;refine dE 1 [.e aK 0] rfl ?_;clear aK;refine Wp 4 rfl ?_;by_cases Ye:c=first
      ·refine bd 70 (b':=true) (by simpa using Ye) rfl<|aF rfl ?_;rw[if_pos (by unfold nw;simp;omega)]at oJ;refine bZ rfl<|ah<|Wp 3 rfl<|aN rfl rfl<|ea T.ok rfl (hs.own 0 _ rfl).1 (show(0:Int)≤(u:Int)from by omega) (by omega) rfl rfl rfl rfl rfl rfl fun b q hh=>?_;obtain⟨rfl,rfl⟩:ob=b∧0=q:=by simpa using hh
       refine gw rfl<|iC T.ok 0 ((u:Int).toNat*1) (us:=[vI d]) rfl hs rfl rfl rfl rfl rfl rfl rfl (by simp) (by simp;omega) (xH _ _ (Value.int .i64) (d:Int) (by omega)) fun g9 hs ag=>?_;obtain⟨cM,aq,aA,bV⟩:=dU ag cM aq aA bV;exact an<|aX<|ai<|ah<|Wp 3 rfl<|an<|fun a ha=>⟨(aY f (u:Int)).next.length-(i+1),by omega,i+1,_,rfl,by rw[oJ];exact hs,cM,by omega,rfl,ha.keep ⟨rfl,rfl,rfl,rfl,rfl,rfl,rfl,kW rfl,trivial⟩⟩
      refine bd 70 (b':=false) (by simpa using Ye) rfl<|Wp 3 rfl<|bd 73 (b':=false) (decide_eq_false (by omega)) rfl<|aF rfl ?_;rw[if_neg (by unfold nw;simp;omega)]at oJ;exact bI rfl<|ar<|aX<|ai<|ah<|Wp 3 rfl<|an<|fun a ha=>⟨(aY f (u:Int)).next.length-(i+1),by omega,i+1,_,rfl,by rw[oJ];exact hs,cM,by omega,rfl,ha.keep ⟨rfl,rfl,rfl,rfl,rfl,rfl,rfl,kW rfl,trivial⟩⟩
     refine bd 62 (b':=false) (by simpa using(show ¬(d:Int)=1 from by omega)) rfl<|Wp 11 rfl<|bd 73 (b':=true) (decide_eq_true (by omega)) rfl<|Wp 2 rfl<|fP (y:=c) bV eI rfl ?_;rintro b q ys aK rfl;refine dE 1 [.e aK 0] rfl ?_;clear aK;refine Wp 4 rfl ?_;by_cases EU:first<c
     ·refine bd 81 (b':=true) (decide_eq_true EU) rfl<|Wp 3 rfl<|fP (y:=c) bV eI rfl ?_;rintro b q ys aK rfl;refine dE 1 [.e aK 0] rfl ?_;clear aK;refine aN rfl rfl<|ea T.ok rfl (hs.own 0 _ rfl).1 pg (by omega) rfl rfl rfl rfl rfl rfl fun b q hh=>?_;obtain⟨rfl,rfl⟩:ob=b∧0=q:=by simpa using hh
      refine aN rfl rfl<|eW T.ok ((c:Int).toNat*1) rfl (hs.own 0 _ rfl).1 rfl (v:=vI (dg tb c)) (uz pg (by omega))<|aF rfl ?_;by_cases R_:dg tb c=(d:Int)-1
      ·rw[if_pos (by unfold nw;simp;omega)]at oJ;refine aG (b:=dg tb c==IntKind.i64.wrap ((d:Int)-1)) (by rw[wq];simpa using R_) rfl<|ah<|Wp 3 rfl<|aN rfl rfl<|ea T.ok rfl (hs.own 0 _ rfl).1 (show(0:Int)≤(u:Int)from by omega) (by omega) rfl rfl rfl rfl rfl rfl fun b q hh=>?_;obtain⟨rfl,rfl⟩:ob=b∧0=q:=by simpa using hh
       refine gw rfl<|iC T.ok 0 ((u:Int).toNat*1) (us:=[vI d]) rfl hs rfl rfl rfl rfl rfl rfl rfl (by simp) (by simp;omega) (xH _ _ (Value.int .i64) (d:Int) (by omega)) fun g9 hs ag=>?_;obtain⟨cM,aq,aA,bV⟩:=dU ag cM aq aA bV;exact an<|aX<|ai<|ah<|Wp 3 rfl<|an<|fun a ha=>⟨(aY f (u:Int)).next.length-(i+1),by omega,i+1,_,rfl,by rw[oJ];exact hs,cM,by omega,rfl,ha.keep ⟨rfl,rfl,rfl,rfl,rfl,rfl,rfl,kW rfl,trivial⟩⟩
      rw[if_neg (by unfold nw;simp;omega)]at oJ;exact bg (b:=dg tb c==IntKind.i64.wrap ((d:Int)-1)) (by rw[wq];simpa using R_) rfl<|ar<|aX<|ai<|ah<|Wp 3 rfl<|an<|fun a ha=>⟨(aY f (u:Int)).next.length-(i+1),by omega,i+1,_,rfl,by rw[oJ];exact hs,cM,by omega,rfl,ha.keep ⟨rfl,rfl,rfl,rfl,rfl,rfl,rfl,kW rfl,trivial⟩⟩
     refine bd 81 (b':=false) (decide_eq_false EU) rfl<|aF rfl ?_;rw[if_neg (by unfold nw;simp;omega)]at oJ;exact bI rfl<|ar<|aX<|ai<|ah<|Wp 3 rfl<|an<|fun a ha=>⟨(aY f (u:Int)).next.length-(i+1),by omega,i+1,_,rfl,by rw[oJ];exact hs,cM,by omega,rfl,ha.keep ⟨rfl,rfl,rfl,rfl,rfl,rfl,rfl,kW rfl,trivial⟩⟩
    refine bg (b:=decide ((i:Int)<((aY f u).next.length:Int))) (decide_eq_false (by omega)) rfl ?_;rw[aaD (by omega)]at hs;exact aJ<|aM<|aM<|b_<|aX<|ai<|ah<|Wp 3 rfl<|an<|fun a ha=>⟨f.steps.length-(u+1),by omega,u+1,_,_,rfl,hs,ou.trans cM,ZG,by omega,by omega,rfl,ha.keep ⟨rfl,rfl,rfl,rfl,rfl,kW rfl,trivial⟩⟩
  refine bg (b:=decide ((u:Int)<(f.steps.length:Int))) (decide_eq_false (by omega)) rfl ?_;obtain rfl:u=f.steps.length:=by omega
  have ZI:=xJ.round OR;exact aJ<|aM<|aM<|b_<|aX<|ai<|ah<|Wp 3 rfl<|an<|fun a ha=>⟨f.steps.length+1-(d+1),by omega,d+1,dist,_,rfl,hs,fE.trans ou,ZI,by omega,by omega,rfl,ha.keep ⟨rfl,rfl,rfl,rfl,kW rfl,trivial⟩⟩
 refine bg (b:=decide ((d:Int)≤(f.steps.length:Int))) (decide_eq_false (by omega)) rfl ?_;obtain rfl:d=f.steps.length+1:=by omega
 have UB:=xJ.len;refine aJ<|aM<|aM<|b_<|ai<|ak<|ck 2 rfl<|aN rfl rfl<|ea T.ok rfl (hs.own 0 _ rfl).1 OR (by omega) rfl rfl rfl rfl rfl rfl fun b q hh=>?_;obtain⟨rfl,rfl⟩:ob=b∧0=q:=by simpa using hh
 refine aN rfl rfl<|eW T.ok ((first:Int).toNat*1) rfl (hs.own 0 _ rfl).1 rfl (v:=vI (dg dist first)) (uz OR (by omega))<|aF rfl ?_;by_cases hz:dg dist first=0
 ·refine aG (b:=dg dist first==0) (by simpa using hz) rfl<|aD rfl<|au<|cg rfl hs ?_;rw[xJ.zero cE hf hl Fh hz];exact Rs.nil _
 refine bg (b:=dg dist first==0) (by simpa using hz) rfl ?_;obtain⟨fL,ZJ⟩:=xJ.P2 cE hf hl Fh hz;have GF:=fun k h1 h2=>xJ.pick cE hf hl fL (k:=k) h1 h2;have OS:=((kH cE hf hl).2 fL).1.zero;have je:=rL cE hf hl fL;have ZK:=abb.2 fL;have ZL:(eh f live first).take 1=[first]:=by rw[rM ZK,List.take_zero,OS];rfl
 generalize ZM:eh f live first=cy at*;refine ar<|ai<|ck 1 rfl<|iX [(0,vI first)] [vI first] hs rfl rfl fun bl gl hs ag=>?_;obtain⟨aq,aA,bB⟩:=eS ag aq aA bB;refine aF rfl<|aD rfl<|ak<|ck 2 rfl<|aN rfl rfl<|ea T.ok rfl (hs.own 1 _ rfl).1 OR (by omega) rfl rfl rfl rfl rfl rfl fun b q hh=>?_;obtain⟨rfl,rfl⟩:ob=b∧0=q:=by simpa using hh
 refine aN rfl rfl<|eW T.ok ((first:Int).toNat*1) rfl (hs.own 1 _ rfl).1 rfl (v:=vI (dg dist first)) (uz OR (by omega))<|aF rfl<|aw ?_;have dj:St g gl [BY (.slice (vA bl) 1 1) (cy.take 1),B0 ob f.steps.length dist]:=by rw[ZL];exact hs
 replace hs:=dj;clear dj;have py:=aq;have JP:=aA;have vE:=bB;have ou:=G.le.refl gl;refine aZ (fun m a' w=> ∃(k:Nat) (ov:Value) (g3:G),w=g3.w∧St g g3 [BY ov (cy.take k),B0 ob f.steps.length dist]∧G.le gl g3∧1≤k∧k≤cy.length∧m=cy.length-k∧
   Fr 162 [] [(1,.slice al live.length cl),(2,vI first),(3,vP bf),(7,.slice (vA ob) f.steps.length f.steps.length),(12,ov),(13,vI (cy.getD (k-1) 0)),(14,vI ((cy.length:Int)-k+1))] a') (cy.length-1)
  (fun a' ha=>⟨1,_,gl,rfl,hs,ou,aaz _,by omega,by omega,ha.keep ⟨rfl,rfl,rfl,rfl,rfl,kI rfl OS.symm,kJ rfl,trivial⟩⟩) ?_
 clear hs ou aq aA bB;rintro m a' _ ⟨k,ov,g3,rfl,hs,ou,JG,JR,rfl,dT⟩;have aq:=py.mono ou;have aA:=JP.mono ou;have bB:=vE.mono ou;obtain⟨qa,qc,rfl⟩:=(hs.own 0 _ rfl).1.form;revert a';refine bT<|ak<|aD rfl ?_;by_cases HT:k<cy.length
 ·refine aG (b:=decide ((1:Int)<(cy.length:Int)-k+1)) (decide_eq_true (by omega)) rfl ?_;obtain⟨Nb,OT⟩:=GF k (by omega) HT;have I':=rM HT;have Yf:cy.getD (k+1-1) 0=cy.getD k 0:=rfl;have ZN:(cy.take k).length=k:=by rw[aat];omega
  generalize cy.getD (k-1) 0=at_ at*;generalize cy.getD k 0=nx at*;have mP:=oS cE OT;refine ar<|ai<|ak<|aw<|eO 3 [.z aq] rfl<|fP (y:=aY f at_) aA (rJ OT) rfl ?_;rintro b q ys aK ⟨b1,b2,b3,b4,b5,b6,rfl,_,bV⟩;obtain⟨_,_,e⟩:=bV.isSlice;obtain⟨rfl,rfl,rfl⟩:=aaO e;clear e;refine aN rfl rfl<|bR _ T.ok rfl<|dE 1 [.e aK 4] rfl ?_;clear aK;refine aF rfl<|ak<|aD rfl<|aw ?_;have Fi:=bV.ef;unfold maxLen at Fi;have PZ:=aq;have Vw:=bB;have P1:=bV;have cM:=G.le.refl g3
  refine aZ (fun m a' w=> ∃(i:Nat) (g4:G),w=g4.w∧St g g4 [BY (.slice qa (cy.take k).length qc) (cy.take k),B0 ob f.steps.length dist]∧G.le g3 g4∧((aY f at_).next.drop i).find? (oT live first dist ((cy.length:Int)-k))=some nx∧m=(aY f at_).next.length-i∧
    Fr 162 [] [(1,.slice al live.length cl),(2,vI first),(3,vP bf),(7,.slice (vA ob) f.steps.length f.steps.length),(12,.slice qa (cy.take k).length qc),(14,vI ((cy.length:Int)-k+1)),(15,.slice b4 (aY f at_).next.length b6),(16,vI i)] a') (aY f at_).next.length
   (fun a' ha=>⟨0,g3,rfl,hs,cM,by rw[ab'];exact Nb,rfl,ha.kp rfl⟩) ?_
  clear hs cM aq aA bV bB Nb;rintro m a' _ ⟨i,g4,rfl,hs,cM,Nb,rfl,dT⟩;have aq:=PZ.mono cM;have bB:=Vw.mono cM;have bV:=P1.mono cM;obtain⟨Rz,Vx,P3⟩:=Fj Nb;have eI:=bM (xs:=(aY f at_).next) (n:=(i:Int)) rfl Rz;have Df:ib f (aY f at_).next[i]:=mP _ (aaQ Rz);generalize(aY f at_).next[i]=c at*;have pg:=Df.1;have Ry:=Df.2;revert a';refine bT<|ak<|aD rfl<|aG (b:=decide ((i:Int)<((aY f at_).next.length:Int))) (decide_eq_true (by omega)) rfl<|ar<|ai<|ak<|aw<|ck 2 rfl<|fP (y:=c) bV eI rfl ?_;rintro b q ys aK rfl;refine dE 1 [.e aK 0] rfl ?_;clear aK;refine Wp 3 rfl ?_;by_cases EU:first<c
  ·refine bd 132 (b':=true) (decide_eq_true EU) rfl ?_;have HR:=bM (xs:=live) (n:=c) (j:=c.toNat) (by omega) (by omega);have ET:live.getD c.toNat false=live[c.toNat]'(by omega):=by rw[aaP,aas (by omega)];rfl
   generalize live[c.toNat]'(by omega)=lb at*;refine Wp 3 rfl<|fP (y:=c) bV eI rfl ?_;rintro b q ys aK rfl;refine dE 1 [.e aK 0] rfl ?_;clear aK;refine fP (y:=lb) bB HR rfl ?_;rintro b q ys aK rfl;refine dE 1 [.e aK 0] rfl ?_;clear aK;cases lb with
   |false=>
    refine aF rfl<|bI rfl ?_;have JS:=P3 (by unfold oT;rw[ET];simp);exact ar<|aX<|ai<|ah<|Wp 3 rfl<|an<|fun a ha=>⟨(aY f at_).next.length-(i+1),by omega,i+1,_,rfl,hs,cM,JS,rfl,ha.keep ⟨rfl,rfl,rfl,rfl,rfl,rfl,rfl,kW rfl,trivial⟩⟩
   |true=>
    refine Wp 5 rfl<|fP (y:=c) bV eI rfl ?_;rintro b q ys aK rfl;refine dE 1 [.e aK 0] rfl ?_;clear aK;refine aN rfl rfl<|ea T.ok rfl (hs.own 1 _ rfl).1 pg (by omega) rfl rfl rfl rfl rfl rfl fun b q hh=>?_;obtain⟨rfl,rfl⟩:ob=b∧0=q:=by simpa using hh
    refine aN rfl rfl<|eW T.ok ((c:Int).toNat*1) rfl (hs.own 1 _ rfl).1 rfl (v:=vI (dg dist c)) (uz pg (by omega))<|aF rfl ?_;by_cases R_:dg dist c=(cy.length:Int)-k
    ·refine aG (b:=dg dist c==IntKind.i64.wrap ((cy.length:Int)-k+1-1)) (by rw[wq];simp;omega) rfl ?_;have OQ:=Vx (by unfold oT;rw[ET,R_,decide_eq_true EU];simp);subst OQ;refine ck 2 rfl<|fP (y:=c) bV eI rfl ?_;rintro b q ys aK rfl;refine dE 1 [.e aK 0] rfl ?_;clear aK;refine aF rfl<|aJ<|P4 rfl<|aM<|aM<|b_<|ai<|ah<|Wp 2 rfl<|iX [(0,vI c)] [vI c] hs rfl rfl fun Vy Vz hs ag=>?_;replace cM:=G.le.trans cM ag;refine aN rfl rfl<|ba T.ok 1 rfl hs rfl rfl rfl rfl rfl rfl rfl (by decide) rfl (Src.dZ (hs.own 0 _ rfl).1).2 (by simp[Value.oneCell']) (by show((cy.take k).length+1)*8≤_;omega) (by unfold maxLen;omega) fun a9 c9 g8 hs ag=>?_;replace cM:=G.le.trans cM ag;exact Wp 1 rfl<|an<|aX<|ai<|ah<|Wp 3 rfl<|an<|fun a ha=>⟨cy.length-(k+1),by omega,k+1,.slice a9 ((cy.take k).length+1) c9,_,rfl,by rw[I'];simpa [BY,B0]using hs.drop 0,ou.trans cM,by omega,by omega,rfl,ha.keep ⟨rfl,rfl,rfl,rfl,rfl,kI rfl Yf.symm,kW rfl,trivial⟩⟩
    refine bg (b:=dg dist c==IntKind.i64.wrap ((cy.length:Int)-k+1-1)) (by rw[wq];simp;omega) rfl ?_;have JS:=P3 (by unfold oT;simp[R_]);exact ar<|aX<|ai<|ah<|Wp 3 rfl<|an<|fun a ha=>⟨(aY f at_).next.length-(i+1),by omega,i+1,_,rfl,hs,cM,JS,rfl,ha.keep ⟨rfl,rfl,rfl,rfl,rfl,rfl,rfl,kW rfl,trivial⟩⟩
  refine bd 132 (b':=false) (decide_eq_false EU) rfl<|aF rfl<|bI rfl ?_;have JS:=P3 (by unfold oT;simp[EU]);exact ar<|aX<|ai<|ah<|Wp 3 rfl<|an<|fun a ha=>⟨(aY f at_).next.length-(i+1),by omega,i+1,_,rfl,hs,cM,JS,rfl,ha.keep ⟨rfl,rfl,rfl,rfl,rfl,rfl,rfl,kW rfl,trivial⟩⟩
 refine bg (b:=decide ((1:Int)<(cy.length:Int)-k+1)) (decide_eq_false (by omega)) rfl ?_;obtain rfl:k=cy.length:=by omega
 rw[aa_]at hs⊢;obtain⟨gq,ZO,Yg,hqq,fg⟩:=hs.cD (α:=Int) (xs:=cy) (i:=0) rfl (cR.ints _ cy);rw[←ZO];replace hs:=Yg;clear Yg;exact aJ<|aM<|aM<|b_<|ai<|aD rfl<|au (cg rfl hs fg)
theorem Fk{f:aU}{n x:Int}(h:x∈reach f n):dh (cp f n) x:=by
 unfold reach at h;split at h
 ·exact(yz.1 h).2
 simp at h
theorem JF(v:Value)(f:aU)(g:G)(dx:eQ g v f):
  cN prog 108 #[v] g fun g' r=>AL g' r (check f):=by
 obtain⟨a1,n1,c1,a2,n2,c2,rfl,aA,aE⟩:=id dx;obtain⟨_,_,e⟩:=aA.isSlice;obtain⟨rfl,rfl,rfl⟩:=aaO e;clear e;have hs:=St.start g;have aj:=G.le.refl g;refine enter func108 rfl ntmps108 rfl<|cO<|gF hs rfl fun bf g2 hs ag aq=>?_;replace dx:=dx.mono ag;refine fA hs rfl fun br g1 hs ag=>?_;obtain⟨aq,dx⟩:=cA ag aq dx;refine bE<|eO 1 [.z aq] rfl<|d_ rfl (Dg _ f 0 _ dx) fun g1 vo aH AR=>?_;obtain⟨gz,gX,dk,iw,bB⟩:=hs.lS aH AR;have ag:=aH.le.trans iw;rw[←gX];replace hs:=dk;clear dk AR;obtain⟨aq,dx⟩:=cA ag aq dx;obtain⟨al,cl,rfl⟩:=bB.isSlice;refine aF rfl<|eO 1 [.z aq] rfl<|d_ rfl (M' _ f _ dx) fun g1 vo aH AR=>?_;obtain⟨gz,gX,dk,iw,aT⟩:=hs.lS aH AR;have ag:=aH.le.trans iw;rw[←gX];replace hs:=dk;clear dk AR;obtain⟨aq,bB,dx⟩:=eS ag aq bB dx;obtain⟨ae,ce,rfl⟩:=aT.isSlice;have xm:=rK f 0;have VA:(ends f).length≤40:=by unfold ends;exact aaC (abq _ _) xm
 have JO: ∀x∈reach f 0,valid f=true∧ib f x:=fun x hx=>by
  have h1:=kK hx;unfold reach at hx;split at hx
  ·rename_i hg;exact⟨(lX.1 hg).1,h1⟩
  simp at hx
 have VB: ∀x∈ends f,ib f x:=fun x hx=>by unfold ends at hx;exact kK (ab4.1 hx).1
 refine aF rfl<|ak<|aD rfl<|aw ?_;have JL:=dx;have nt:=aq;have yA:=bB;have JT:=aT;have iN:=G.le.refl gz
 refine aZ (fun m a' w=> ∃(k:Nat) (g2:G),w=g2.w∧St g g2 [vO br [vI 0,.slice none 0 0] 145]∧G.le gz g2∧k≤(reach f 0).length∧m=(reach f 0).length-k∧sP f ((reach f 0).drop k)=sP f (reach f 0)∧
   Fr 88 [] [(1,vP bf),(2,vP br),(3,.slice al (reach f 0).length cl),(4,.slice ae (ends f).length ce),(5,vI k)] a') (reach f 0).length
  (fun a' ha=>⟨0,gz,rfl,hs,iN,aar _,rfl,by rw[ab'],ha.kp rfl⟩) ?_
 clear hs iN aq aA aE bB aT dx;rintro m a' _ ⟨k,g2,rfl,hs,iN,hk,rfl,dt,dT⟩;have aq:=nt.mono iN;have dx:=JL.mono iN;have bB:=yA.mono iN;have aT:=JT.mono iN;revert a';refine bT<|ak<|aD rfl ?_;by_cases aV:k<(reach f 0).length
 ·refine aG (b:=decide ((k:Int)<((reach f 0).length:Int))) (decide_eq_true (by omega)) rfl ?_;rw[aa7 aV]at dt;unfold sP at dt;rw[List.find?_cons]at dt;obtain⟨cE,mP⟩:=JO _ (aaQ aV);have eI:=bM (xs:=reach f 0) (n:=(k:Int)) rfl aV;generalize(reach f 0)[k]=n at*;refine ar<|ai<|ak<|aw<|ak ?_;apply dP (eA (fe (.f (BZ n)::(fe (.f (Fact.rs (cp f n))::(.f (Fact.rs (cp f n))::[])))))) 7 [(6,6)] (by kernel_rfl)
  ·refine cY [[],[],[]] [.e aq 0] (St.start _) rfl<|aW [(1,23),(2,24)] (fun gd hf=>?_) ?_
   ·have eR:=(G.a_ _).trans hf.le;exact fD rfl<|az<|ay rfl<|dJ T.ok rfl (bB.mono eR) (y:=n) eI rfl rfl rfl rfl rfl rfl fun b p ys aK fw=>⟨_,rfl,bW.refl _,b,p,rfl,by rw[←show ys=[Value.int .i64 n]from fw];exact aK⟩
   refine aW [(3,25)] (fun gd hf=>?_) ?_
   ·skip;refine aI fun v3 h3=>?_;apply az;obtain⟨b,p,rfl,aK⟩:=h3;refine ay rfl<|cu T.ok 0 rfl aK rfl rfl<|⟨_,rfl,bW.refl _,?_⟩;exact rfl
   refine aW [(0,22),(4,26)] (fun gd hf=>?_) ?_
   ·have eR:=(G.a_ _).trans hf.le;refine fD rfl<|az<|ay rfl<|bu (cB 193) bJ rfl rfl rfl rfl rfl (tk _ f n _ (dx.mono eR) cE mP) fun g' v h1 h2=>?_
    obtain⟨g2,e1,e2,e3,e4⟩:=(St.start gd).lS h1 h2;exact⟨g2,e1,e2.p9,e4⟩
   exact aW [(5,27),(5,27),(5,27)] (fun gd hf=>aI fun v5 h5=>(aI fun v5 h5=>(aI fun v5 h5=>(az (bj rfl h5)))))<|fk
  intro g1 aH;refine aI fun v6 h6=>?_;apply az;replace hs:=hs.dr.call aH;have ag:=(G.a_ _).trans aH.le;obtain⟨aq,bB,aT,dx⟩:=dU ag aq bB aT dx;have bV:Rs g1 v6 (cp f n):=h6;clear h6;replace iN:=iN.trans ag;obtain⟨am,cm,rfl⟩:=bV.isSlice;rw[fb]at bV;rw[fb];refine bE<|aD rfl<|ak<|aD rfl<|aw ?_;have Fl:=dx;have py:=aq;have vE:=bB;have JN:=aT;have VC:=bV;have mQ:=G.le.refl g1
  refine aZ (fun m a' w=> ∃(j:Nat) (g5:G),w=g5.w∧St g g5 [vO br [vI 0,.slice none 0 0] 145]∧G.le g1 g5∧j≤(ends f).length∧m=(ends f).length-j∧
    Fr 88 [] [(1,vP bf),(2,vP br),(3,.slice al (reach f 0).length cl),(4,.slice ae (ends f).length ce),(5,vI k),(6,.slice am f.steps.length cm),
     (7,.bool (((ends f).take j).any (fun e=>(cp f n).getD e.toNat false))),(8,vI j)] a') (ends f).length
   (fun a' ha=>⟨0,g1,rfl,hs,mQ,aar _,rfl,ha.kp rfl⟩) ?_
  clear hs mQ aq bB aT dx bV;rintro m a' _ ⟨j,g5,rfl,hs,mQ,hj,rfl,dT⟩;have aq:=py.mono mQ;have dx:=Fl.mono mQ;have bB:=vE.mono mQ;have aT:=JN.mono mQ;have bV:=VC.mono mQ;revert a';refine bT<|ak<|aD rfl ?_;by_cases EV:j<(ends f).length
  ·refine aG (b:=decide ((j:Int)<((ends f).length:Int))) (decide_eq_true (by omega)) rfl ?_;have I':=aaX EV;have EK:=bM (xs:=ends f) (n:=(j:Int)) rfl EV;have HU:=VB _ (aaQ EV);have xt:((ends f).take (j+1)).any (fun e=>(cp f n).getD e.toNat false)=(((ends f).take j).any (fun e=>(cp f n).getD e.toNat false)||(cp f n).getD (ends f)[j].toNat false):=by rw[I',List.any_append];simp
   generalize(ends f)[j]=e at*;have he0:=HU.1;have he1:=HU.2;have JU:e.toNat<(cp f n).length:=by rw[fb];omega
   have P5:(cp f n).getD e.toNat false=(cp f n)[e.toNat]:=by rw[aaP,aas JU];rfl
   have ZP:=bM (xs:=cp f n) (n:=e) (j:=e.toNat) (by omega) JU;rw[P5]at xt;generalize(cp f n)[e.toNat]=eb at*;generalize((ends f).take j).any (fun e=>(cp f n).getD e.toNat false)=ab at*;refine ar<|ai<|ak<|aw<|ah<|Wp 2 rfl ?_;cases ab with
   |true=>
    exact Wp 9 rfl<|an<|aX<|ai<|ah<|Wp 3 rfl<|an<|fun a ha=>⟨(ends f).length-(j+1),by omega,j+1,_,rfl,hs,mQ,by omega,rfl,ha.keep ⟨rfl,rfl,rfl,rfl,rfl,rfl,kB rfl (by rw[xt];rfl),kW rfl,trivial⟩⟩
   |false=>
    refine Wp 3 rfl<|fP (y:=e) aT EK rfl ?_;rintro b p ys aK rfl;refine dE 1 [.e aK 0] rfl ?_;clear aK;refine fP (y:=eb) bV ZP rfl ?_;rintro b p ys aK rfl;refine dE 1 [.e aK 0] rfl ?_;clear aK;exact Wp 2 rfl<|an<|aX<|ai<|ah<|Wp 3 rfl<|an<|fun a ha=>⟨(ends f).length-(j+1),by omega,j+1,_,rfl,hs,mQ,by omega,rfl,ha.keep ⟨rfl,rfl,rfl,rfl,rfl,rfl,kB rfl (by rw[xt];rfl),kW rfl,trivial⟩⟩
  refine bg (b:=decide ((j:Int)<((ends f).length:Int))) (decide_eq_false (by omega)) rfl ?_;obtain rfl:j=(ends f).length:=by omega
  rw[aa_];have xt:(ends f).any (fun e=>(cp f n).getD e.toNat false)=alive f n:=rfl;rw[xt];clear xt;refine aJ<|aM<|aM<|b_<|ai<|aD rfl ?_;cases Yh:alive f n with
  |true=>
   rw[Yh]at dt;exact bI rfl<|ar<|aX<|ai<|ah<|Wp 3 rfl<|an<|fun a ha=>⟨(reach f 0).length-(k+1),by omega,k+1,_,rfl,hs,iN.trans mQ,by omega,rfl,dt,ha.keep ⟨rfl,rfl,rfl,rfl,kW rfl,trivial⟩⟩
  |false=>
   rw[Yh]at dt;refine bZ rfl<|ck 2 rfl<|fP (y:=n) bB eI rfl ?_;rintro b p ys aK rfl;refine dE 1 [.e aK 0] rfl ?_;clear aK;refine iX [(0,vI n)] [vI n] hs rfl rfl fun b2 g2 hs ag=>?_;obtain⟨aq,bB,aT,dx⟩:=dU ag aq bB aT dx;obtain⟨g3,wH,EW,Ac,EX⟩:=hs.cD (α:=Int) (xs:=[n]) (i:=0) rfl (cR.ints _ [n]);clear ag;have ag:=Ac;rw[←wH];replace hs:=EW;obtain⟨aq,bB,aT,dx⟩:=dU ag aq bB aT dx;refine hZ [(0,vI 1),(1,.slice (vA b2) 1 1)] [vI 1,.slice (vA b2) 1 1] [(0,1),(1,1)] rfl<|dC 0 hs rfl fun g1 hs ag=>?_;obtain⟨aq,bB,aT,dx⟩:=dU ag aq bB aT dx;replace EX:=EX.mono ag;refine bE<|au<|iy<|ec<|ec<|iy<|ec<|my T.ok 0 rfl hs rfl rfl rfl<|hs.ret ?_;have xr:check f=(1,[n]):=by unfold check sP;rw[←dt];rfl
   rw[xr];exact⟨_,_,_,rfl,EX⟩
 refine bg (b:=decide ((k:Int)<((reach f 0).length:Int))) (decide_eq_false (by omega)) rfl ?_;rw[abr (by omega)]at dt;refine aJ<|aM<|aM<|b_<|ai<|aD rfl<|ak<|aD rfl<|aw ?_;have Fl:=dx;have py:=aq;have vE:=bB;have mQ:=G.le.refl g2
 refine aZ (fun m a' w=> ∃(j:Nat) (bv:Value) (g5:G),w=g5.w∧St g g5 [vO br [vI 0,.slice none 0 0] 145]∧G.le g2 g5∧j≤(reach f 0).length∧m=(reach f 0).length-j∧Rs g5 bv (lT f ((reach f 0).take j))∧
   Fr 88 [] [(1,vP bf),(2,vP br),(3,.slice al (reach f 0).length cl),(9,bv),(10,vI j)] a') (reach f 0).length
  (fun a' ha=>⟨0,_,g2,rfl,hs,mQ,aar _,rfl,Rs.nil _,ha.kp rfl⟩) ?_
 clear hs mQ aq bB aT dx;rintro m a' _ ⟨j,bv,g5,rfl,hs,mQ,hj,rfl,mR,dT⟩;have aq:=py.mono mQ;have dx:=Fl.mono mQ;have bB:=vE.mono mQ;obtain⟨ab,cb,rfl⟩:=mR.isSlice;revert a';refine bT<|ak<|aD rfl ?_;by_cases EV:j<(reach f 0).length
 ·refine aG (b:=decide ((j:Int)<((reach f 0).length:Int))) (decide_eq_true (by omega)) rfl ?_;have sO:=yC f ((reach f 0).take j) (reach f 0)[j];rw[←aaX EV]at sO;obtain⟨cE,mP⟩:=JO _ (aaQ EV);have ES:=Fk (aaQ EV);have UC:ib f 0:=⟨by omega,by have:=mP.1;have:=mP.2;omega⟩;have eI:=bM (xs:=reach f 0) (n:=(j:Int)) rfl EV;generalize(reach f 0)[j]=n at*;refine ar<|ai<|ak<|aw<|ak ?_;apply dP (eA (.f (Fact.rs (cp f 0))::(eA (.f (BZ n)::(fe (.f (Fact.rs (eh f (cp f 0) n))::(.f (Fact.rs (eh f (cp f 0) n))::[]))))))) 9 [(8,11)] (by kernel_rfl)
  ·refine cY [[],[]] [.e aq 0,.e aq 0] (St.start _) rfl<|aW [(1,59)] (fun gd hf=>?_) ?_
   ·have eR:=(G.a_ _).trans hf.le;refine bU rfl<|az<|ay rfl<|bu (cB 193) bJ rfl rfl rfl rfl rfl (tk _ f 0 _ (dx.mono eR) cE UC) fun g' v h1 h2=>?_
    obtain⟨g2,e1,e2,e3,e4⟩:=(St.start gd).lS h1 h2;exact⟨g2,e1,e2.p9,e4⟩
   refine jV [[],[]] rfl<|aW [(3,61),(4,62)] (fun gd hf=>?_) ?_
   ·have eR:=(G.a_ _).trans hf.le;exact fD rfl<|az<|ay rfl<|dJ T.ok rfl (bB.mono eR) (y:=n) eI rfl rfl rfl rfl rfl rfl fun b p ys aK fw=>⟨_,rfl,bW.refl _,b,p,rfl,by rw[←show ys=[Value.int .i64 n]from fw];exact aK⟩
   refine aW [(5,63)] (fun gd hf=>?_) ?_
   ·skip;refine aI fun v5 h5=>?_;apply az;obtain⟨b,p,rfl,aK⟩:=h5;refine ay rfl<|cu T.ok 0 rfl aK rfl rfl<|⟨_,rfl,bW.refl _,?_⟩;exact rfl
   refine aW [(0,58),(2,60),(6,64),(2,60)] (fun gd hf=>?_) ?_
   ·have eR:=(G.a_ _).trans hf.le;refine bU rfl<|aI fun v2 h2=>?_;refine bU rfl ?_;refine aI fun v2 h2=>?_
    refine az<|ay rfl<|bu (cB 194) bJ rfl rfl rfl rfl rfl (HQ _ _ f (cp f 0) n _ (dx.mono eR) h2 cE (fb f 0) mP ES) fun g' v h1 h2=>?_
    exact⟨g',rfl,h1,h2⟩
   exact aW [(7,65),(7,65),(7,65)] (fun gd hf=>aI fun v7 h7=>(aI fun v7 h7=>(aI fun v7 h7=>(az (bj rfl h7)))))<|fk
  intro g1 aH;refine aI fun v8 h8=>?_;apply az;replace hs:=hs.dr.call aH;have ag:=(G.a_ _).trans aH.le;replace mQ:=mQ.trans ag;replace mR:=mR.mono ag;have aT:Rs g1 v8 (eh f (cp f 0) n):=h8;clear h8;unfold uA at sO;generalize eh f (cp f 0) n=cy at*;generalize lT f ((reach f 0).take j)=bl at*;obtain⟨ac,cc,rfl⟩:=aT.isSlice;refine bE<|ck 4 rfl ?_;by_cases pg:0<cy.length
  ·refine bd 69 (b':=true) (decide_eq_true (by omega)) rfl<|Wp 4 rfl ?_;by_cases Aa:bl=[]
   ·rw[if_pos ⟨pg,.inl Aa⟩]at sO;exact bd 73 (b':=true) (by rw[Aa];rfl) rfl<|aF rfl<|bZ rfl<|ah<|Wp 2 rfl<|an<|aX<|ai<|ah<|Wp 3 rfl<|an<|fun a ha=>⟨(reach f 0).length-(j+1),by omega,j+1,_,_,rfl,hs,mQ,by omega,rfl,by rw[sO];exact aT,ha.keep ⟨rfl,rfl,rfl,rfl,kW rfl,trivial⟩⟩
   have ZQ:=abb.2 Aa;refine bd 73 (b':=false) (by simp;omega) rfl<|aF rfl ?_;by_cases je:cy.length<bl.length
   ·rw[if_pos ⟨pg,.inr je⟩]at sO;exact aG (b:=decide ((cy.length:Int)<(bl.length:Int))) (decide_eq_true (by omega)) rfl<|ah<|Wp 2 rfl<|an<|aX<|ai<|ah<|Wp 3 rfl<|an<|fun a ha=>⟨(reach f 0).length-(j+1),by omega,j+1,_,_,rfl,hs,mQ,by omega,rfl,by rw[sO];exact aT,ha.keep ⟨rfl,rfl,rfl,rfl,kW rfl,trivial⟩⟩
   rw[if_neg (fun h=>h.2.elim Aa je)]at sO;exact bg (b:=decide ((cy.length:Int)<(bl.length:Int))) (decide_eq_false (by omega)) rfl<|ar<|aX<|ai<|ah<|Wp 3 rfl<|an<|fun a ha=>⟨(reach f 0).length-(j+1),by omega,j+1,_,_,rfl,hs,mQ,by omega,rfl,by rw[sO];exact mR,ha.keep ⟨rfl,rfl,rfl,rfl,kW rfl,trivial⟩⟩
  refine bd 69 (b':=false) (decide_eq_false (by omega)) rfl ?_;rw[if_neg (fun h=>pg h.1)]at sO;exact aF rfl<|bI rfl<|ar<|aX<|ai<|ah<|Wp 3 rfl<|an<|fun a ha=>⟨(reach f 0).length-(j+1),by omega,j+1,_,_,rfl,hs,mQ,by omega,rfl,by rw[sO];exact mR,ha.keep ⟨rfl,rfl,rfl,rfl,kW rfl,trivial⟩⟩
 refine bg (b:=decide ((j:Int)<((reach f 0).length:Int))) (decide_eq_false (by omega)) rfl ?_;rw[aaD (by omega)]at mR⊢;have xr:check f=if lT f (reach f 0)=[]then(0,[])else(2,lT f (reach f 0)):=by unfold check;rw[←dt];rfl
 generalize lT f (reach f 0)=bl at*;refine aJ<|aM<|aM<|b_<|ai<|ak<|aD rfl ?_;by_cases Aa:bl=[]
 ·rw[if_pos Aa]at xr;refine aG (b:=((bl.length:Nat):Int)==0) (by rw[Aa];rfl) rfl<|cO<|hZ [] [vI 0,.slice none 0 0] [(0,1),(1,1)] rfl<|dC 0 hs rfl fun g1 hs ag=>bE<|au<|ec<|my T.ok 0 rfl hs rfl rfl rfl<|hs.ret ?_;rw[xr];exact⟨_,_,_,rfl,Rs.nil _⟩
 rw[if_neg Aa]at xr;have ZQ:=abb.2 Aa;refine bg (b:=((bl.length:Nat):Int)==0) (by simp;omega) rfl<|ar<|ai<|ck 1 rfl<|hZ [(0,vI 2),(1,.slice ab bl.length cb)] [vI 2,.slice ab bl.length cb] [(0,1),(1,1)] rfl<|dC 0 hs rfl fun g1 hs ag=>?_;replace mR:=mR.mono ag;refine bE<|au<|my T.ok 0 rfl hs rfl rfl rfl<|hs.ret ?_;rw[xr];exact⟨_,_,_,rfl,mR⟩
def acc(first:Bool)(f:aU):List (List UInt8)→Option aU
 |[]=>some f
 |l::r=>(oe first f l).bind fun f'=>acc false f' r
theorem IN(p r:List UInt8):p.isPrefixOf (p++r)=true:=by rw[acm];exact List.prefix_append p r
theorem LY(i:Nat)(s:Step):jc.isPrefixOf (fJ i s)=true:=by rw[s9,aaG];exact IN _ _
structure Xr(f:aU):Prop where
 Zd:dV f=true
 one:1≤f.steps.length
 steps:f.steps.length≤40
 Re:f.windows.length≤20
 all: ∀s∈f.steps,bO s f.steps.length=true
 ok:fj f.steps.length [] f.windows=true
structure Blk where
 ig:List (List UInt8)
 line:Option (List UInt8)
set_option maxHeartbeats 4000000
def Gs(s:List UInt8)(k fr:Nat)(out:List (List UInt8)):Prop:=
 (k≤s.length∧fr≤k∧bD 10 s=out++bD 10 (s.drop fr)∧(10:UInt8)∉(s.drop fr).take (k-fr))∨(k=s.length+1∧bD 10 s=out)
theorem Gs.next{s:List UInt8}{k fr:Nat}{out:List (List UInt8)}(h:Gs s k fr out)(hk:k<s.length)(hn:s[k]≠10):Gs s (k+1) fr out:=by
 rcases h with⟨h1,h2,h3,h4⟩|⟨h1,_⟩
 ·refine .inl ⟨hk,by omega,h3,?_⟩;rw[show k+1-fr=(k-fr)+1 by omega,aaV];intro hm;rcases aaJ.1 hm with hm|hm
  ·exact h4 hm
  rw[abB,show fr+(k-fr)=k by omega,aas hk]at hm;simp at hm;exact hn hm.symm
 omega
theorem Gs.cut{s:List UInt8}{k fr:Nat}{out:List (List UInt8)}(h:Gs s k fr out)(hk:k≤s.length)(hn: ∀h:k<s.length,s[k]=10):fr≤k∧Gs s (k+1) (k+1) (out++[(s.take k).drop fr]):=by
 rcases h with⟨h1,h2,h3,h4⟩|⟨h1,_⟩
 ·refine⟨h2,?_⟩;rw[acH];by_cases aV:k<s.length
  ·refine .inl ⟨aV,aaz _,?_,by simp⟩;rw[h3,aaG];congr 1;have e:s.drop fr=(s.drop fr).take (k-fr)++10::s.drop (k+1):=by rw[←hn aV,←aa7 aV,show s.drop k=(s.drop fr).drop (k-fr) by rw[aca,show fr+(k-fr)=k by omega],aaY]
   rw[e,wo 10 _ _ h4,←e];rfl
  refine .inr ⟨by omega,?_⟩;rw[h3];congr 1;have e:(s.drop fr).take (k-fr)=s.drop fr:=aaD (by rw[aaM];omega);rw[e]at h4⊢;exact rf 10 _ h4
 omega
theorem Oq(s:List UInt8)(g:G)(hlen:s.length≤1000000):
  cN prog 187 #[.string (bs s)] g fun g' r=>Rs g' r ((bD 10 s).map xU.mk):=by
 have hs:=St.start g;have aj:=G.le.refl g;refine enter func187 rfl ntmps187 rfl ?_;replace hs:=hs.eM 9 1 none
 (iterate 3 refine aD rfl ?_);apply ak;refine aD rfl ?_;apply aw
 refine aZ (fun m a' w=> ∃(k fr:Nat) (out:List (List UInt8)) (ra:Option Addr) (rc:Nat) (g':G),w=g'.w∧St g g' [.row 9 1 (.slice ra out.length rc) out.length (out.map fun n=>Value.string (bs n))]∧G.le g g'∧k≤s.length+1∧Gs s k fr out∧out.length≤k∧m=s.length+1-k∧
  Fr 32 [] [(0,.string (bs s)),(3,.slice ra out.length rc),(4,vI fr),(5,vI k)] a') (s.length+1) (fun a' ha=>⟨0,0,[],none,0,g,rfl,hs,G.le.refl _,aar _,.inl ⟨aar _,aar _,rfl,by simp⟩,aar _,rfl,ha.kp rfl⟩) ?_
 clear hs;rintro m a' _ ⟨k,fr,out,ra,rc,g',rfl,hs,aj,hk,hI,JB,rfl,dT⟩;revert a';refine bT<|ak<|aD rfl ?_;by_cases aV:k≤s.length
 ·refine aG (b:=_) ?_ rfl ?_
  ·rw[bX];exact decide_eq_true (by omega)
  by_cases he:k=s.length
  ·refine ar<|ai<|ak<|aw<|ck 5 rfl<|bd 16 (b':=true) (by rw[bX];simp[he]) rfl<|aF rfl<|bZ rfl ?_;have hc:=hI.cut aV (fun h=>by omega);refine ck 4 rfl<|aN rfl rfl<|oY T.ok (s:=s) (a:=fr) (b:=k) rfl rfl rfl rfl ⟨_,rfl⟩ ⟨_,rfl⟩ hc.1 aV<|iX [(0,.string (bs ((s.take k).drop fr)))] [.string (bs ((s.take k).drop fr))] hs rfl rfl fun Vy Vz hs ag=>?_;replace aj:=aj.trans ag;refine aN rfl rfl<|ba T.ok 1 rfl hs rfl rfl rfl rfl rfl rfl rfl (by decide) rfl (Src.dZ (hs.own 0 _ rfl).1).2 (by simp[Value.oneCell']) (by show(out.length+1)*16≤_;omega) (by unfold maxLen;show out.length+1≤_;omega) fun a9 c9 g9 hs ag=>?_;replace aj:=aj.trans ag;replace hs:=hs.drop 0;refine aF rfl<|ah<|Wp 3 rfl<|an<|aX<|ai<|ah<|Wp 3 rfl<|an<|fun a ha=>⟨s.length+1-(k+1),by omega,k+1,k+1,out++[(s.take k).drop fr],a9,c9,g9,rfl,?_,aj,by omega,hc.2,by rw[aal,aaF];omega,rfl,ha.keep ⟨rfl,by rw[aal,aaF];rfl,kW rfl,kW rfl,trivial⟩⟩
   rw[aa3,aal,aaF];exact hs
  have JR:k<s.length:=by omega
  refine ar<|ai<|ak<|aw<|ck 5 rfl<|bd 16 (b':=false) (by rw[bX];simp;omega) rfl<|Wp 2 rfl<|aN rfl rfl<|fH T.ok rfl rfl rfl rfl rfl (by omega) (by simpa using JR)<|aF rfl ?_;by_cases ue:s[k]=10
  ·refine aG (b:=_) ?_ rfl ?_
   ·simp[ue]
   have hc:=hI.cut aV (fun h=>ue);refine ck 4 rfl<|aN rfl rfl<|oY T.ok (s:=s) (a:=fr) (b:=k) rfl rfl rfl rfl ⟨_,rfl⟩ ⟨_,rfl⟩ hc.1 aV<|iX [(0,.string (bs ((s.take k).drop fr)))] [.string (bs ((s.take k).drop fr))] hs rfl rfl fun Vy Vz hs ag=>?_;replace aj:=aj.trans ag;refine aN rfl rfl<|ba T.ok 1 rfl hs rfl rfl rfl rfl rfl rfl rfl (by decide) rfl (Src.dZ (hs.own 0 _ rfl).1).2 (by simp[Value.oneCell']) (by show(out.length+1)*16≤_;omega) (by unfold maxLen;show out.length+1≤_;omega) fun a9 c9 g9 hs ag=>?_;replace aj:=aj.trans ag;replace hs:=hs.drop 0;refine aF rfl<|ah<|Wp 3 rfl<|an<|aX<|ai<|ah<|Wp 3 rfl<|an<|fun a ha=>⟨s.length+1-(k+1),by omega,k+1,k+1,out++[(s.take k).drop fr],a9,c9,g9,rfl,?_,aj,by omega,hc.2,by rw[aal,aaF];omega,rfl,ha.keep ⟨rfl,by rw[aal,aaF];rfl,kW rfl,kW rfl,trivial⟩⟩
   rw[aa3,aal,aaF];exact hs
  refine bg (b:=_) ?_ rfl ?_
  ·simp;intro h;exact ue (UInt8.toNat_inj.1 (show s[k].toNat=10 by omega))
  have hc:=hI.next JR ue;exact ar<|aX<|ai<|ah<|Wp 3 rfl<|an<|fun a ha=>⟨s.length+1-(k+1),by omega,k+1,fr,out,ra,rc,_,rfl,hs,aj,by omega,hc,by omega,rfl,ha.keep ⟨rfl,rfl,rfl,kW rfl,trivial⟩⟩
 refine bg (b:=_) ?_ rfl ?_
 ·rw[bX];exact decide_eq_false (by omega)
 have C8:bD 10 s=out:=by
  rcases hI with⟨h1,_⟩|⟨_,h2⟩
  ·omega
  exact h2
 obtain⟨gy,IW,Jg,L6,ph⟩:=hs.cD (α:=xU) (xs:=out.map xU.mk) (i:=0) rfl (cR.strs _ _);replace hs:=Jg;rw[←IW];exact aJ<|aM<|aM<|b_<|ai<|aD rfl<|au<|cg rfl hs (by rw[C8];exact ph)
set_option maxHeartbeats 16000000
def qp(b:Nat)(s:List UInt8)(at':Nat)(ok:Bool):dc:=vO b [.string (bs s),vI at',.bool ok] 255
def zQ(b:Nat)(s:List UInt8)(L:List dc)(g0 g':G)(ok:Bool)(r:List UInt8):Prop:=∃at':Nat,at'≤s.length∧s.drop at'=r∧St g0 g' (qp b s at' ok::L)
theorem xd{w r:List UInt8}:w.isPrefixOf r=(decide (w.length≤r.length)&&(r.take w.length==w)):=by
 by_cases h:w.isPrefixOf r=true
 ·obtain⟨t,rfl⟩:=acm.1 h;rw[h];simp
 have h0:w.isPrefixOf r=false:=abS.2 h;rw[h0];cases hq:(r.take w.length==w)with
 |false=>simp
 |true=>
  have e:r.take w.length=w:=by simpa using hq
  exact absurd (acm.2 ⟨r.drop w.length,by conv=>rhs;rw[←aaY w.length r,e]⟩) h
theorem me{b:Nat}{s w:List UInt8}{at':Nat}{ok:Bool}{g0 g:G}{L:List dc}(Ic:at'≤s.length)(ee:s.length≤1000000)(T3:w.length≤1000000)(hs:St g0 g (qp b s at' ok::L)):
  CallsIn Wd 0 prog 239 #[vP b,.string (bs w)] g.w (df g fun g' r=>r= .tuple #[]∧zQ b s L g0 g' (dK w ok (s.drop at')).1 (dK w ok (s.drop at')).2):=by
 have aj:=G.le.refl g;unfold zQ qp at*;refine enter func239 rfl ntmps239 rfl ?_;have Q2:w.isPrefixOf (s.drop at')=(decide (w.length≤s.length-at')&&((s.take (at'+w.length)).drop at'==w)):=by rw[xd,aaM,acH,abO]
 cases ok with
 |false=>
  have hw:dK w false (s.drop at')=(false,s.drop at'):=by unfold dK;rw[if_neg (by simp)]
  rw[hw];refine ak<|ak ?_;apply aO hs (cV (cV (cV (cV (cV []))))) 40 [(39,43)] (by kernel_rfl) rfl
  ·exact mX [[],[0],[1],[2],[3],[4],[5],[6,5],[7,5],[8,5],[9,5],[5],[11,5],[12,5],[13,5],[10,14,5],[5],[16,5],[15,17,5],[5,18],[19],[20],[21,20],[22,20],[23,20],[20],[25,20],[26,20],[27,20],[20],[29,20],[30,20],[31,20],[20],[33,20],[32,34,20],[24,28,35,20],[20],[36,37,20],[20,38]] [.o 0] hs rfl
  clear hs;intro g1 hs ag;replace aj:=G.le.trans aj ag;refine bE<|bZ rfl<|ck 3 rfl<|dC 0 hs rfl fun g1 hs ag=>?_;replace aj:=G.le.trans aj ag;exact bE<|au<|ec<|tA rfl (df.intro aj ⟨rfl,at',Ic,rfl,hs⟩)
 |true=>
  cases e1:decide (((s.length-at':Nat):Int)<(w.length:Int))with
  |true=>
   have aV: ¬w.length≤s.length-at':=by simp at e1;omega
   have hw:dK w true (s.drop at')=(false,s.drop at'):=by unfold dK;rw[if_neg];rw[Q2,decide_eq_false aV];simp
   rw[hw];refine ak<|ak ?_;apply aO hs (cV (cV (cV (cV (cV []))))) 40 [(39,43)] (by kernel_rfl) rfl
   ·exact cY [[],[0],[1],[2],[3],[4],[5],[6,5],[7,5],[8,5],[9,5],[5],[11,5],[12,5],[13,5]] [.o 0,.o 0,.o 0] hs rfl<|aW [(10,14),(14,18),(5,9)] (fun gd hf=>dD rfl (bj rfl (congrArg (Value.int .i64) (show _=((s.length-at':Nat):Int)from by rw[bX,wq];omega))))<|jV [[5],[16,5]] rfl<|aW [(15,19),(17,21),(5,9)] (fun gd hf=>dD rfl (bj rfl (congrArg Value.bool (show _=true from by rw[bX];exact e1))))<|qo [[5,18],[19],[20],[21,20],[22,20],[23,20],[20],[25,20],[26,20],[27,20],[20],[29,20],[30,20],[31,20],[20],[33,20],[32,34,20],[24,28,35,20],[20],[36,37,20],[20,38]] rfl
   clear hs;intro g1 hs ag;replace aj:=G.le.trans aj ag;refine bE<|bZ rfl<|ck 3 rfl<|dC 0 hs rfl fun g1 hs ag=>?_;replace aj:=G.le.trans aj ag;exact bE<|au<|ec<|tA rfl (df.intro aj ⟨rfl,at',Ic,rfl,hs⟩)
  |false=>
   have hle:w.length≤s.length-at':=by simp at e1;omega
   cases e2:((s.take (at'+w.length)).drop at'==w)with
   |false=>
    have hw:dK w true (s.drop at')=(false,s.drop at'):=by unfold dK;rw[if_neg];rw[Q2,e2];simp
    rw[hw];refine ak<|ak ?_;apply aO hs (cV (cV (cV (cV (cV []))))) 40 [(39,43)] (by kernel_rfl) rfl
    ·exact cY [[],[0],[1],[2],[3],[4],[5],[6,5],[7,5],[8,5],[9,5],[5],[11,5],[12,5],[13,5]] [.o 0,.o 0,.o 0] hs rfl<|aW [(10,14),(14,18),(5,9)] (fun gd hf=>dD rfl (bj rfl (congrArg (Value.int .i64) (show _=((s.length-at':Nat):Int)from by rw[bX,wq];omega))))<|jV [[5],[16,5]] rfl<|aW [(15,19),(17,21),(5,9)] (fun gd hf=>dD rfl (bj rfl (congrArg Value.bool (show _=false from by rw[bX];exact e1))))<|cY [[5,18],[19],[20],[21,20],[22,20],[23,20],[20],[25,20],[26,20],[27,20],[20],[29,20],[30,20],[31,20],[20],[33,20]] [.o 0,.o 0,.o 0] hs rfl<|aW [(32,36),(34,38),(20,24)] (fun gd hf=>dD rfl (bj rfl (congrArg (Value.int .i64) (show _=((at'+w.length:Nat):Int)from by rw[bX,wq];omega))))<|aW [(24,28),(28,32),(35,39),(20,24)] (fun gd hf=>su rfl (ay rfl (oY T.ok (s:=s) (a:=at') (b:=at'+w.length) rfl rfl rfl rfl ⟨_,rfl⟩ ⟨_,rfl⟩ (by omega) (by omega) (cC rfl))))<|jV [[20]] rfl<|aW [(36,40),(37,41),(20,24)] (fun gd hf=>dD rfl (ay rfl (Ct (neg:=true) (p:=(s.take (at'+w.length)).drop at') (q:=w) rfl rfl rfl (cC (congrArg Value.bool (show(true !=_)=true from by rw[e2];rfl))))))<|qo [[20,38]] rfl
    clear hs;intro g1 hs ag;replace aj:=G.le.trans aj ag;refine bE<|bZ rfl<|ck 3 rfl<|dC 0 hs rfl fun g1 hs ag=>?_;replace aj:=G.le.trans aj ag;exact bE<|au<|ec<|tA rfl (df.intro aj ⟨rfl,at',Ic,rfl,hs⟩)
   |true=>
    have hw:dK w true (s.drop at')=(true,s.drop (at'+w.length)):=by unfold dK;rw[if_pos ⟨rfl,by rw[Q2,e2,decide_eq_true hle];rfl⟩,aca]
    rw[hw];refine ak<|ak ?_;apply aO hs (cV (cV (cV (cV (cV []))))) 40 [(39,43)] (by kernel_rfl) rfl
    ·exact cY [[],[0],[1],[2],[3],[4],[5],[6,5],[7,5],[8,5],[9,5],[5],[11,5],[12,5],[13,5]] [.o 0,.o 0,.o 0] hs rfl<|aW [(10,14),(14,18),(5,9)] (fun gd hf=>dD rfl (bj rfl (congrArg (Value.int .i64) (show _=((s.length-at':Nat):Int)from by rw[bX,wq];omega))))<|jV [[5],[16,5]] rfl<|aW [(15,19),(17,21),(5,9)] (fun gd hf=>dD rfl (bj rfl (congrArg Value.bool (show _=false from by rw[bX];exact e1))))<|cY [[5,18],[19],[20],[21,20],[22,20],[23,20],[20],[25,20],[26,20],[27,20],[20],[29,20],[30,20],[31,20],[20],[33,20]] [.o 0,.o 0,.o 0] hs rfl<|aW [(32,36),(34,38),(20,24)] (fun gd hf=>dD rfl (bj rfl (congrArg (Value.int .i64) (show _=((at'+w.length:Nat):Int)from by rw[bX,wq];omega))))<|aW [(24,28),(28,32),(35,39),(20,24)] (fun gd hf=>su rfl (ay rfl (oY T.ok (s:=s) (a:=at') (b:=at'+w.length) rfl rfl rfl rfl ⟨_,rfl⟩ ⟨_,rfl⟩ (by omega) (by omega) (cC rfl))))<|jV [[20]] rfl<|aW [(36,40),(37,41),(20,24)] (fun gd hf=>dD rfl (ay rfl (Ct (neg:=true) (p:=(s.take (at'+w.length)).drop at') (q:=w) rfl rfl rfl (cC (congrArg Value.bool (show(true !=_)=false from by rw[e2];rfl))))))<|qo [[20,38]] rfl
    clear hs;intro g1 hs ag;replace aj:=G.le.trans aj ag;refine bE<|bI rfl<|ar<|ai<|ah<|Wm 10 [.o 0] hs rfl<|jK (vI ((at'+w.length:Nat):Int)) (t:=54) rfl (congrArg (Value.int .i64) (by rw[bX,wq];omega))<|dC 0 hs rfl fun g1 hs ag=>?_;replace aj:=G.le.trans aj ag;exact an<|nd rfl (df.intro aj ⟨rfl,at'+w.length,by omega,rfl,hs⟩)
theorem Ey{b:Nat}{s w:List UInt8}{at':Nat}{ok:Bool}{g0 g:G}{L:List dc}(Ic:at'≤s.length)(ee:s.length≤1000000)(T3:w.length≤1000000)(hs:St g0 g (qp b s at' ok::L)):
  CallsIn Wd 0 prog 242 #[vP b,.string (bs w)] g.w (df g fun g' r=>r= .bool (ki w ok (s.drop at'))∧St g0 g' (qp b s at' ok::L)):=by
 have aj:=G.le.refl g;unfold qp at*;refine enter func242 rfl ntmps242 rfl ?_;have Q2:w.isPrefixOf (s.drop at')=(decide (w.length≤s.length-at')&&((s.take (at'+w.length)).drop at'==w)):=by rw[xd,aaM,acH,abO]
 unfold ki;rw[Q2];cases ok with
 |false=>
  refine aD rfl<|ak ?_;apply aO hs (cV (cV (cV (cV (gR (eA (fe []))))))) 39 [(38,43)] (by kernel_rfl) rfl
  ·exact mX [[],[0],[1],[2],[3],[4],[5,4],[6,4],[7,4],[8,4],[4],[10,4],[11,4],[12,4],[9,13,4],[4],[15,4],[14,16,4],[4,17],[18],[19],[20,19],[21,19],[22,19],[19],[24,19],[25,19],[26,19],[19],[28,19],[29,19],[30,19],[19],[32,19],[31,33,19],[23,27,34,19],[19],[35,36,19],[19,37]] [.o 0] hs rfl
  clear hs;intro g1 hs ag;replace aj:=G.le.trans aj ag;exact aF rfl<|au (eC rfl (df.intro aj ⟨rfl,hs⟩))
 |true=>
  cases e1:decide (((w.length:Nat):Int)≤((s.length-at':Nat):Int))with
  |false=>
   have aV: ¬w.length≤s.length-at':=by simp at e1;omega
   rw[decide_eq_false aV];refine aD rfl<|ak ?_;apply aO hs (cV (cV (cV (cV (gR (eA (fe []))))))) 39 [(38,43)] (by kernel_rfl) rfl
   ·exact cY [[],[0],[1],[2],[3],[4],[5,4],[6,4],[7,4],[8,4],[4],[10,4],[11,4],[12,4]] [.o 0,.o 0,.o 0] hs rfl<|aW [(9,14),(13,18),(4,9)] (fun gd hf=>dD rfl (bj rfl (congrArg (Value.int .i64) (show _=((s.length-at':Nat):Int)from by rw[bX,wq];omega))))<|jV [[4],[15,4]] rfl<|aW [(14,19),(16,21),(4,9)] (fun gd hf=>dD rfl (bj rfl (congrArg Value.bool (show _=false from by rw[bX];exact e1))))<|qo [[4,17],[18],[19],[20,19],[21,19],[22,19],[19],[24,19],[25,19],[26,19],[19],[28,19],[29,19],[30,19],[19],[32,19],[31,33,19],[23,27,34,19],[19],[35,36,19],[19,37]] rfl
   clear hs;intro g1 hs ag;replace aj:=G.le.trans aj ag;exact aF rfl<|au (eC rfl (df.intro aj ⟨rfl,hs⟩))
  |true=>
   have hle:w.length≤s.length-at':=by simp at e1;omega
   rw[decide_eq_true hle];refine aD rfl<|ak ?_;apply aO hs (cV (cV (cV (cV (gR (eA (fe []))))))) 39 [(38,43)] (by kernel_rfl) rfl
   ·exact cY [[],[0],[1],[2],[3],[4],[5,4],[6,4],[7,4],[8,4],[4],[10,4],[11,4],[12,4]] [.o 0,.o 0,.o 0] hs rfl<|aW [(9,14),(13,18),(4,9)] (fun gd hf=>dD rfl (bj rfl (congrArg (Value.int .i64) (show _=((s.length-at':Nat):Int)from by rw[bX,wq];omega))))<|jV [[4],[15,4]] rfl<|aW [(14,19),(16,21),(4,9)] (fun gd hf=>dD rfl (bj rfl (congrArg Value.bool (show _=true from by rw[bX];exact e1))))<|cY [[4,17],[18],[19],[20,19],[21,19],[22,19],[19],[24,19],[25,19],[26,19],[19],[28,19],[29,19],[30,19],[19],[32,19]] [.o 0,.o 0,.o 0] hs rfl<|aW [(31,36),(33,38),(19,24)] (fun gd hf=>dD rfl (bj rfl (congrArg (Value.int .i64) (show _=((at'+w.length:Nat):Int)from by rw[bX,wq];omega))))<|aW [(23,28),(27,32),(34,39),(19,24)] (fun gd hf=>su rfl (ay rfl (oY T.ok (s:=s) (a:=at') (b:=at'+w.length) rfl rfl rfl rfl ⟨_,rfl⟩ ⟨_,rfl⟩ (by omega) (by omega) (cC rfl))))<|jV [[19]] rfl<|aW [(35,40),(36,41),(19,24)] (fun gd hf=>dD rfl (ay rfl (Ct (neg:=false) (p:=(s.take (at'+w.length)).drop at') (q:=w) rfl rfl rfl (cC (congrArg Value.bool (show(false !=_)=((s.take (at'+w.length)).drop at'==w)from by simp))))))<|qo [[19,37]] rfl
   clear hs;intro g1 hs ag;replace aj:=G.le.trans aj ag;exact aF rfl<|au (eC rfl (df.intro aj ⟨rfl,hs⟩))
theorem Rh{n:Int}(h:0≤n)(h2:n<256):IntKind.u8.wrap n=n:=by unfold IntKind.wrap;simp[IntKind.signed,IntKind.bits];omega
theorem Xz(c:UInt8)(h:48≤c.toNat):IntKind.u8.wrap ((c.toNat:Int)-48)=((c.toNat-48:Nat):Int):=by
 have h2:c.toNat<256:=c.toNat_lt;have e:(c.toNat:Int)-48=((c.toNat-48:Nat):Int):=by omega
 rw[e];exact Rh (by omega) (by omega)
theorem IU(n:Nat):fY n []=(n,[]):=rfl
theorem tW{n:Nat}{c:UInt8}{t:List UInt8}(h: ¬(n≤1000000∧fX c=true)):fY n (c::t)=(n,c::t):=by rw[fY,if_neg h]
theorem L5{n:Nat}{c:UInt8}{t:List UInt8}(h:n≤1000000∧fX c=true):fY n (c::t)=fY (10*n+(c.toNat-48)) t:=by rw[fY,if_pos h]
theorem sk(c:UInt8):fX c=true↔48≤c.toNat∧c.toNat≤57:=by unfold fX;simp
theorem sn{s:List UInt8}{a0 a1 n:Nat}(h:fY 0 (s.drop a0)=(n,s.drop a1))(h0:a0≤a1)(h1:a1≤s.length):
  oC (s.drop a0)=(decide (a1=a0)||(decide (1<a1-a0)&&s[a0]? ==some 48)||decide (1000000<n)):=by
 unfold oC;rw[h];dsimp only;rw[aaM,aaM,List.head?_drop];have e1:(s.length-a1==s.length-a0)=decide (a1=a0):=by
  by_cases hh:a1=a0
  ·subst hh;simp
  rw[decide_eq_false hh,beq_eq_false_iff_ne];omega
 have e2:s.length-a0-(s.length-a1)=a1-a0:=by omega
 rw[e1,e2]
theorem gI{b:Nat}{s:List UInt8}{a0:Nat}{ok:Bool}{g0 g:G}{L:List dc}(Ic:a0≤s.length)(ee:s.length≤1000000)(hs:St g0 g (qp b s a0 ok::L)):
  CallsIn Wd 0 prog 240 #[vP b] g.w (df g fun g' r=>r=vI ((eu ok (s.drop a0)).1:Nat)∧zQ b s L g0 g' (eu ok (s.drop a0)).2.1 (eu ok (s.drop a0)).2.2):=by
 have aj:=G.le.refl g;unfold zQ qp at*;refine enter func240 rfl ntmps240 rfl ?_;cases ok with
 |false=>
  have mP:eu false (s.drop a0)=(0,false,s.drop a0):=rfl;rw[mP];refine aD rfl<|aD rfl<|Ja [.o 0] hs rfl<|ak<|aw<|aZ (fun m a' w=> ∃(g':G),w=g'.w∧St g0 g' (vO b [.string (bs s),vI a0,.bool false] 255::L)∧G.le g g'∧m=0∧Fr 106 [] [(0,vP b),(3,vI 0),(4,vI a0)] a') 0 (fun a' ha=>⟨g,rfl,hs,aj,rfl,ha.kp rfl⟩) ?_;clear hs aj;rintro m a' _ ⟨g',rfl,hs,aj,rfl,dT⟩;revert a';refine bT<|ak<|ak ?_;apply aO hs (cV (cV (cV (cV (cV (gR [])))))) 44 [(43,52)] (by kernel_rfl) rfl
  ·exact mX [[],[0],[1],[2],[3],[4],[5,4],[6,4],[7,4],[4],[9,4],[10,4],[11,4],[12,4],[8,13,4],[4,14],[15],[16],[17,16],[18,16],[19,16],[16],[21,16],[22,16],[23,16],[20,24,16],[25,16],[16,26],[27],[28],[29,28],[30,28],[31,28],[28],[33,28],[34,28],[35,28],[32,36,28],[37,28],[28,38],[39],[40],[41,40],[40,42]] [.o 0] hs rfl
  clear hs;intro g1 hs ag;replace aj:=G.le.trans aj ag;refine bE<|bI rfl<|aJ<|aM<|aM<|b_<|ai<|ak<|jd 7 [.o 0] hs rfl<|bd 80 (b':=true) (by simp) rfl<|aF rfl<|bZ rfl<|ah<|Wp 3 rfl<|dC 0 hs rfl fun g1 hs ag=>?_;replace aj:=G.le.trans aj ag;exact bE<|aD rfl<|au (eC rfl (df.intro aj ⟨rfl,a0,Ic,rfl,hs⟩))
 |true=>
  refine aD rfl<|aD rfl<|Ja [.o 0] hs rfl<|ak<|aw ?_
  refine aZ (fun m a' w=> ∃(n a1:Nat) (g':G),fY n (s.drop a1)=fY 0 (s.drop a0)∧w=g'.w∧St g0 g' (vO b [.string (bs s),vI a1,.bool true] 255::L)∧G.le g g'∧a0≤a1∧a1≤s.length∧n≤10000009∧m=s.length-a1∧
   Fr 106 [] [(0,vP b),(3,vI n),(4,vI a0)] a') (s.length-a0) (fun a' ha=>⟨0,a0,g,rfl,rfl,hs,aj,aaz _,Ic,by omega,rfl,ha.kp rfl⟩) ?_
  clear hs aj;rintro m a' _ ⟨n,a1,g',T4,rfl,hs,aj,h0,h1,hn,rfl,dT⟩;revert a';by_cases aV:a1<s.length
  ·obtain⟨c,hc⟩: ∃c,s[a1]=c:=⟨_,rfl⟩;have xp:s.drop a1=c::s.drop (a1+1):=by rw[aa7 aV,hc]
   have e1:decide ((a1:Int)<(s.length:Int))=true:=by simp;omega
   cases e2:decide ((48:Int)≤(c.toNat:Int))with
   |false=>
    have hd:fY 0 (s.drop a0)=(n,s.drop a1):=by rw[←T4,xp,tW];rintro⟨_,h⟩;have:=((sk c).1 h).1;simp at e2;omega
    refine bT<|ak<|ak ?_;apply aO hs (cV (cV (cV (cV (cV (gR [])))))) 44 [(43,52)] (by kernel_rfl) rfl
    ·exact cY [[],[0],[1],[2],[3],[4],[5,4],[6,4],[7,4],[4],[9,4],[10,4],[11,4],[12,4]] [.o 0,.o 0,.o 0] hs rfl<|aW [(8,17),(13,22),(4,13)] (fun gd hf=>dD rfl (bj rfl (congrArg Value.bool (show _=true from by rw[bX];exact e1))))<|cY [[4,14],[15],[16],[17,16],[18,16],[19,16],[16],[21,16],[22,16],[23,16]] [.o 0,.o 0] hs rfl<|aW [(20,29),(24,33),(16,25)] (fun gd hf=>dD rfl (ay rfl (fH T.ok (s:=s) (n:=(a1:Int)) rfl rfl rfl rfl rfl (by omega) (by simpa using aV) (cC (congrArg (fun z:UInt8=>Value.int .u8 (z.toNat:Int)) hc)))))<|aW [(25,34),(16,25)] (fun gd hf=>bN rfl (bj rfl (congrArg Value.bool (show _=false from by exact e2))))<|qo [[16,26],[27],[28],[29,28],[30,28],[31,28],[28],[33,28],[34,28],[35,28],[32,36,28],[37,28],[28,38],[39],[40],[41,40],[40,42]] rfl
    clear hs;intro g1 hs ag;replace aj:=G.le.trans aj ag;refine bE<|bI rfl ?_;have mP:eu true (s.drop a0)=(n,!oC (s.drop a0),s.drop a1):=by unfold eu;rw[if_pos rfl,hd]
    rw[mP,sn hd h0 h1];dsimp only;clear mP;by_cases zd:a1=a0
    ·subst zd;rw[decide_eq_true (rfl:a1=a1),abH,abH];refine aJ<|aM<|aM<|b_<|ai<|ak<|jd 7 [.o 0] hs rfl<|bd 80 (b':=true) (by simp) rfl<|aF rfl<|bZ rfl<|ah<|Wp 3 rfl<|dC 0 hs rfl fun g1 hs ag=>?_;replace aj:=G.le.trans aj ag;exact bE<|aD rfl<|au (eC rfl (df.intro aj ⟨rfl,a1,h1,rfl,hs⟩))
    rw[decide_eq_false zd,abE];refine aJ<|aM<|aM<|b_<|ai<|ak<|jd 7 [.o 0] hs rfl<|bd 80 (b':=false) (by simp;omega) rfl<|Wm 8 [.o 0] hs rfl ?_;by_cases AG:1<a1-a0
    ·refine bd 88 (b':=true) (by rw[wq];simp;omega) rfl ?_;have zR:a0<s.length:=by omega
     rw[decide_eq_true AG,abf,aas zR];obtain⟨c0,pg⟩: ∃c0,s[a0]=c0:=⟨_,rfl⟩;refine Wm 5 [.o 0] hs rfl<|aN rfl rfl<|fH T.ok (s:=s) (n:=(a0:Int)) rfl rfl rfl rfl rfl (by omega) (by simpa using zR)<|jK (.int .u8 (c0.toNat:Int)) (t:=94) rfl (congrArg (fun z:UInt8=>Value.int .u8 (z.toNat:Int)) pg) ?_;rw[pg];by_cases E4:c0=48
     ·subst E4;rw[show((some (48:UInt8))==some 48)=true from rfl,abH];refine aF rfl<|bZ rfl<|ah<|Wp 3 rfl<|dC 0 hs rfl fun g1 hs ag=>?_;replace aj:=G.le.trans aj ag;exact bE<|aD rfl<|au (eC rfl (df.intro aj ⟨rfl,a1,h1,rfl,hs⟩))
     have fL:(c0.toNat:Int)≠48:=fun h=>E4 (UInt8.toNat_inj.1 (show c0.toNat=48 by omega));rw[show(some c0==some 48)=false from by simpa using E4,abE];refine Wp 4 rfl<|bd 98 (b':=false) (by simp;omega) rfl ?_;by_cases nJ:1000000<n
     ·rw[decide_eq_true nJ];refine aF rfl<|aG (b:=_) ?_ rfl ?_
      ·simp;omega
      refine ah<|Wp 3 rfl<|dC 0 hs rfl fun g1 hs ag=>?_;replace aj:=G.le.trans aj ag;exact bE<|aD rfl<|au (eC rfl (df.intro aj ⟨rfl,a1,h1,rfl,hs⟩))
     rw[decide_eq_false nJ];refine aF rfl<|bg (b:=_) ?_ rfl ?_
     ·simp;omega
     exact ar<|ai<|aD rfl<|au (eC rfl (df.intro aj ⟨rfl,a1,h1,rfl,hs⟩))
    refine bd 88 (b':=false) (by rw[wq];simp;omega) rfl ?_;rw[decide_eq_false AG,aa6,abE];refine aF rfl ?_;by_cases nJ:1000000<n
    ·rw[decide_eq_true nJ];refine aG (b:=_) ?_ rfl ?_
     ·simp;omega
     refine ah<|Wp 3 rfl<|dC 0 hs rfl fun g1 hs ag=>?_;replace aj:=G.le.trans aj ag;exact bE<|aD rfl<|au (eC rfl (df.intro aj ⟨rfl,a1,h1,rfl,hs⟩))
    rw[decide_eq_false nJ];refine bg (b:=_) ?_ rfl ?_
    ·simp;omega
    exact ar<|ai<|aD rfl<|au (eC rfl (df.intro aj ⟨rfl,a1,h1,rfl,hs⟩))
   |true=>
   cases e3:decide ((c.toNat:Int)≤57)with
   |false=>
    have hd:fY 0 (s.drop a0)=(n,s.drop a1):=by rw[←T4,xp,tW];rintro⟨_,h⟩;have:=((sk c).1 h).2;simp at e3;omega
    refine bT<|ak<|ak ?_;apply aO hs (cV (cV (cV (cV (cV (gR [])))))) 44 [(43,52)] (by kernel_rfl) rfl
    ·exact cY [[],[0],[1],[2],[3],[4],[5,4],[6,4],[7,4],[4],[9,4],[10,4],[11,4],[12,4]] [.o 0,.o 0,.o 0] hs rfl<|aW [(8,17),(13,22),(4,13)] (fun gd hf=>dD rfl (bj rfl (congrArg Value.bool (show _=true from by rw[bX];exact e1))))<|cY [[4,14],[15],[16],[17,16],[18,16],[19,16],[16],[21,16],[22,16],[23,16]] [.o 0,.o 0] hs rfl<|aW [(20,29),(24,33),(16,25)] (fun gd hf=>dD rfl (ay rfl (fH T.ok (s:=s) (n:=(a1:Int)) rfl rfl rfl rfl rfl (by omega) (by simpa using aV) (cC (congrArg (fun z:UInt8=>Value.int .u8 (z.toNat:Int)) hc)))))<|aW [(25,34),(16,25)] (fun gd hf=>bN rfl (bj rfl (congrArg Value.bool (show _=true from by exact e2))))<|cY [[16,26],[27],[28],[29,28],[30,28],[31,28],[28],[33,28],[34,28],[35,28]] [.o 0,.o 0] hs rfl<|aW [(32,41),(36,45),(28,37)] (fun gd hf=>dD rfl (ay rfl (fH T.ok (s:=s) (n:=(a1:Int)) rfl rfl rfl rfl rfl (by omega) (by simpa using aV) (cC (congrArg (fun z:UInt8=>Value.int .u8 (z.toNat:Int)) hc)))))<|aW [(37,46),(28,37)] (fun gd hf=>bN rfl (bj rfl (congrArg Value.bool (show _=false from by exact e3))))<|qo [[28,38],[39],[40],[41,40],[40,42]] rfl
    clear hs;intro g1 hs ag;replace aj:=G.le.trans aj ag;refine bE<|bI rfl ?_;have mP:eu true (s.drop a0)=(n,!oC (s.drop a0),s.drop a1):=by unfold eu;rw[if_pos rfl,hd]
    rw[mP,sn hd h0 h1];dsimp only;clear mP;by_cases zd:a1=a0
    ·subst zd;rw[decide_eq_true (rfl:a1=a1),abH,abH];refine aJ<|aM<|aM<|b_<|ai<|ak<|jd 7 [.o 0] hs rfl<|bd 80 (b':=true) (by simp) rfl<|aF rfl<|bZ rfl<|ah<|Wp 3 rfl<|dC 0 hs rfl fun g1 hs ag=>?_;replace aj:=G.le.trans aj ag;exact bE<|aD rfl<|au (eC rfl (df.intro aj ⟨rfl,a1,h1,rfl,hs⟩))
    rw[decide_eq_false zd,abE];refine aJ<|aM<|aM<|b_<|ai<|ak<|jd 7 [.o 0] hs rfl<|bd 80 (b':=false) (by simp;omega) rfl<|Wm 8 [.o 0] hs rfl ?_;by_cases AG:1<a1-a0
    ·refine bd 88 (b':=true) (by rw[wq];simp;omega) rfl ?_;have zR:a0<s.length:=by omega
     rw[decide_eq_true AG,abf,aas zR];obtain⟨c0,pg⟩: ∃c0,s[a0]=c0:=⟨_,rfl⟩;refine Wm 5 [.o 0] hs rfl<|aN rfl rfl<|fH T.ok (s:=s) (n:=(a0:Int)) rfl rfl rfl rfl rfl (by omega) (by simpa using zR)<|jK (.int .u8 (c0.toNat:Int)) (t:=94) rfl (congrArg (fun z:UInt8=>Value.int .u8 (z.toNat:Int)) pg) ?_;rw[pg];by_cases E4:c0=48
     ·subst E4;rw[show((some (48:UInt8))==some 48)=true from rfl,abH];refine aF rfl<|bZ rfl<|ah<|Wp 3 rfl<|dC 0 hs rfl fun g1 hs ag=>?_;replace aj:=G.le.trans aj ag;exact bE<|aD rfl<|au (eC rfl (df.intro aj ⟨rfl,a1,h1,rfl,hs⟩))
     have fL:(c0.toNat:Int)≠48:=fun h=>E4 (UInt8.toNat_inj.1 (show c0.toNat=48 by omega));rw[show(some c0==some 48)=false from by simpa using E4,abE];refine Wp 4 rfl<|bd 98 (b':=false) (by simp;omega) rfl ?_;by_cases nJ:1000000<n
     ·rw[decide_eq_true nJ];refine aF rfl<|aG (b:=_) ?_ rfl ?_
      ·simp;omega
      refine ah<|Wp 3 rfl<|dC 0 hs rfl fun g1 hs ag=>?_;replace aj:=G.le.trans aj ag;exact bE<|aD rfl<|au (eC rfl (df.intro aj ⟨rfl,a1,h1,rfl,hs⟩))
     rw[decide_eq_false nJ];refine aF rfl<|bg (b:=_) ?_ rfl ?_
     ·simp;omega
     exact ar<|ai<|aD rfl<|au (eC rfl (df.intro aj ⟨rfl,a1,h1,rfl,hs⟩))
    refine bd 88 (b':=false) (by rw[wq];simp;omega) rfl ?_;rw[decide_eq_false AG,aa6,abE];refine aF rfl ?_;by_cases nJ:1000000<n
    ·rw[decide_eq_true nJ];refine aG (b:=_) ?_ rfl ?_
     ·simp;omega
     refine ah<|Wp 3 rfl<|dC 0 hs rfl fun g1 hs ag=>?_;replace aj:=G.le.trans aj ag;exact bE<|aD rfl<|au (eC rfl (df.intro aj ⟨rfl,a1,h1,rfl,hs⟩))
    rw[decide_eq_false nJ];refine bg (b:=_) ?_ rfl ?_
    ·simp;omega
    exact ar<|ai<|aD rfl<|au (eC rfl (df.intro aj ⟨rfl,a1,h1,rfl,hs⟩))
   |true=>
   have T5:fX c=true:=(sk c).2 ⟨by simp at e2;omega,by simp at e3;omega⟩;have XC:=(sk c).1 T5;cases e4:decide ((n:Int)≤1000000)with
   |false=>
    have hd:fY 0 (s.drop a0)=(n,s.drop a1):=by rw[←T4,xp,tW];rintro⟨h,_⟩;simp at e4;omega
    refine bT<|ak<|ak ?_;apply aO hs (cV (cV (cV (cV (cV (gR [])))))) 44 [(43,52)] (by kernel_rfl) rfl
    ·exact cY [[],[0],[1],[2],[3],[4],[5,4],[6,4],[7,4],[4],[9,4],[10,4],[11,4],[12,4]] [.o 0,.o 0,.o 0] hs rfl<|aW [(8,17),(13,22),(4,13)] (fun gd hf=>dD rfl (bj rfl (congrArg Value.bool (show _=true from by rw[bX];exact e1))))<|cY [[4,14],[15],[16],[17,16],[18,16],[19,16],[16],[21,16],[22,16],[23,16]] [.o 0,.o 0] hs rfl<|aW [(20,29),(24,33),(16,25)] (fun gd hf=>dD rfl (ay rfl (fH T.ok (s:=s) (n:=(a1:Int)) rfl rfl rfl rfl rfl (by omega) (by simpa using aV) (cC (congrArg (fun z:UInt8=>Value.int .u8 (z.toNat:Int)) hc)))))<|aW [(25,34),(16,25)] (fun gd hf=>bN rfl (bj rfl (congrArg Value.bool (show _=true from by exact e2))))<|cY [[16,26],[27],[28],[29,28],[30,28],[31,28],[28],[33,28],[34,28],[35,28]] [.o 0,.o 0] hs rfl<|aW [(32,41),(36,45),(28,37)] (fun gd hf=>dD rfl (ay rfl (fH T.ok (s:=s) (n:=(a1:Int)) rfl rfl rfl rfl rfl (by omega) (by simpa using aV) (cC (congrArg (fun z:UInt8=>Value.int .u8 (z.toNat:Int)) hc)))))<|aW [(37,46),(28,37)] (fun gd hf=>bN rfl (bj rfl (congrArg Value.bool (show _=true from by exact e3))))<|jV [[28,38],[39],[40]] rfl<|aW [(41,50),(40,49)] (fun gd hf=>bN rfl (bj rfl (congrArg Value.bool (show _=false from by exact e4))))<|qo [[40,42]] rfl
    clear hs;intro g1 hs ag;replace aj:=G.le.trans aj ag;refine bE<|bI rfl ?_;have mP:eu true (s.drop a0)=(n,!oC (s.drop a0),s.drop a1):=by unfold eu;rw[if_pos rfl,hd]
    rw[mP,sn hd h0 h1];dsimp only;clear mP;by_cases zd:a1=a0
    ·subst zd;rw[decide_eq_true (rfl:a1=a1),abH,abH];refine aJ<|aM<|aM<|b_<|ai<|ak<|jd 7 [.o 0] hs rfl<|bd 80 (b':=true) (by simp) rfl<|aF rfl<|bZ rfl<|ah<|Wp 3 rfl<|dC 0 hs rfl fun g1 hs ag=>?_;replace aj:=G.le.trans aj ag;exact bE<|aD rfl<|au (eC rfl (df.intro aj ⟨rfl,a1,h1,rfl,hs⟩))
    rw[decide_eq_false zd,abE];refine aJ<|aM<|aM<|b_<|ai<|ak<|jd 7 [.o 0] hs rfl<|bd 80 (b':=false) (by simp;omega) rfl<|Wm 8 [.o 0] hs rfl ?_;by_cases AG:1<a1-a0
    ·refine bd 88 (b':=true) (by rw[wq];simp;omega) rfl ?_;have zR:a0<s.length:=by omega
     rw[decide_eq_true AG,abf,aas zR];obtain⟨c0,pg⟩: ∃c0,s[a0]=c0:=⟨_,rfl⟩;refine Wm 5 [.o 0] hs rfl<|aN rfl rfl<|fH T.ok (s:=s) (n:=(a0:Int)) rfl rfl rfl rfl rfl (by omega) (by simpa using zR)<|jK (.int .u8 (c0.toNat:Int)) (t:=94) rfl (congrArg (fun z:UInt8=>Value.int .u8 (z.toNat:Int)) pg) ?_;rw[pg];by_cases E4:c0=48
     ·subst E4;rw[show((some (48:UInt8))==some 48)=true from rfl,abH];refine aF rfl<|bZ rfl<|ah<|Wp 3 rfl<|dC 0 hs rfl fun g1 hs ag=>?_;replace aj:=G.le.trans aj ag;exact bE<|aD rfl<|au (eC rfl (df.intro aj ⟨rfl,a1,h1,rfl,hs⟩))
     have fL:(c0.toNat:Int)≠48:=fun h=>E4 (UInt8.toNat_inj.1 (show c0.toNat=48 by omega));rw[show(some c0==some 48)=false from by simpa using E4,abE];refine Wp 4 rfl<|bd 98 (b':=false) (by simp;omega) rfl ?_;by_cases nJ:1000000<n
     ·rw[decide_eq_true nJ];refine aF rfl<|aG (b:=_) ?_ rfl ?_
      ·simp;omega
      refine ah<|Wp 3 rfl<|dC 0 hs rfl fun g1 hs ag=>?_;replace aj:=G.le.trans aj ag;exact bE<|aD rfl<|au (eC rfl (df.intro aj ⟨rfl,a1,h1,rfl,hs⟩))
     rw[decide_eq_false nJ];refine aF rfl<|bg (b:=_) ?_ rfl ?_
     ·simp;omega
     exact ar<|ai<|aD rfl<|au (eC rfl (df.intro aj ⟨rfl,a1,h1,rfl,hs⟩))
    refine bd 88 (b':=false) (by rw[wq];simp;omega) rfl ?_;rw[decide_eq_false AG,aa6,abE];refine aF rfl ?_;by_cases nJ:1000000<n
    ·rw[decide_eq_true nJ];refine aG (b:=_) ?_ rfl ?_
     ·simp;omega
     refine ah<|Wp 3 rfl<|dC 0 hs rfl fun g1 hs ag=>?_;replace aj:=G.le.trans aj ag;exact bE<|aD rfl<|au (eC rfl (df.intro aj ⟨rfl,a1,h1,rfl,hs⟩))
    rw[decide_eq_false nJ];refine bg (b:=_) ?_ rfl ?_
    ·simp;omega
    exact ar<|ai<|aD rfl<|au (eC rfl (df.intro aj ⟨rfl,a1,h1,rfl,hs⟩))
   |true=>
    have hnm:n≤1000000:=by simp at e4;omega
    have mI:fY (10*n+(c.toNat-48)) (s.drop (a1+1))=fY 0 (s.drop a0):=by rw[←T4,xp,L5 ⟨hnm,T5⟩]
    refine bT<|ak<|ak ?_;apply aO hs (cV (cV (cV (cV (cV (gR [])))))) 44 [(43,52)] (by kernel_rfl) rfl
    ·exact cY [[],[0],[1],[2],[3],[4],[5,4],[6,4],[7,4],[4],[9,4],[10,4],[11,4],[12,4]] [.o 0,.o 0,.o 0] hs rfl<|aW [(8,17),(13,22),(4,13)] (fun gd hf=>dD rfl (bj rfl (congrArg Value.bool (show _=true from by rw[bX];exact e1))))<|cY [[4,14],[15],[16],[17,16],[18,16],[19,16],[16],[21,16],[22,16],[23,16]] [.o 0,.o 0] hs rfl<|aW [(20,29),(24,33),(16,25)] (fun gd hf=>dD rfl (ay rfl (fH T.ok (s:=s) (n:=(a1:Int)) rfl rfl rfl rfl rfl (by omega) (by simpa using aV) (cC (congrArg (fun z:UInt8=>Value.int .u8 (z.toNat:Int)) hc)))))<|aW [(25,34),(16,25)] (fun gd hf=>bN rfl (bj rfl (congrArg Value.bool (show _=true from by exact e2))))<|cY [[16,26],[27],[28],[29,28],[30,28],[31,28],[28],[33,28],[34,28],[35,28]] [.o 0,.o 0] hs rfl<|aW [(32,41),(36,45),(28,37)] (fun gd hf=>dD rfl (ay rfl (fH T.ok (s:=s) (n:=(a1:Int)) rfl rfl rfl rfl rfl (by omega) (by simpa using aV) (cC (congrArg (fun z:UInt8=>Value.int .u8 (z.toNat:Int)) hc)))))<|aW [(37,46),(28,37)] (fun gd hf=>bN rfl (bj rfl (congrArg Value.bool (show _=true from by exact e3))))<|jV [[28,38],[39],[40]] rfl<|aW [(41,50),(40,49)] (fun gd hf=>bN rfl (bj rfl (congrArg Value.bool (show _=true from by exact e4))))<|qo [[40,42]] rfl
    clear hs;intro g1 hs ag;replace aj:=G.le.trans aj ag;refine bE<|bZ rfl<|ar<|ai<|aw<|ak ?_;apply aO hs (cV (gR (eA []))) 14 [(13,66)] (by kernel_rfl) rfl
    ·exact jV [[]] rfl<|aW [(0,53)] (fun gd hf=>cj rfl (bj rfl (congrArg (Value.int .i64) (show _=((10*n:Nat):Int)from by rw[wq];omega))))<|cY [[],[2],[3],[4],[],[6],[7],[8]] [.o 0,.o 0] hs rfl<|aW [(5,58),(9,62)] (fun gd hf=>bN rfl (ay rfl (fH T.ok (s:=s) (n:=(a1:Int)) rfl rfl rfl rfl rfl (by omega) (by simpa using aV) (cC (congrArg (fun z:UInt8=>Value.int .u8 (z.toNat:Int)) hc)))))<|aW [(10,63)] (fun gd hf=>cj rfl (bj rfl (congrArg (Value.int .u8) (show _=((c.toNat-48:Nat):Int)from Xz c XC.1))))<|aW [(11,64)] (fun gd hf=>cj rfl (ay rfl (Bi _ T.ok rfl (cC (congrArg (Value.int .i64) (show _=((c.toNat-48:Nat):Int)from wq))))))<|aW [(1,54),(12,65)] (fun gd hf=>bN rfl (bj rfl (congrArg (Value.int .i64) (show _=((10*n+(c.toNat-48):Nat):Int)from by rw[wq];omega))))<|fk
    clear hs;intro g1 hs ag;replace aj:=G.le.trans aj ag;refine aF rfl<|ah<|Wm 7 [.o 0] hs rfl<|jK (vI ((a1+1:Nat):Int)) (t:=71) rfl (congrArg (Value.int .i64) (by rw[wq];omega))<|dC 0 hs rfl fun g5 hs ag=>?_;replace aj:=G.le.trans aj ag;exact an<|aX<|fun a ha=>⟨s.length-(a1+1),by omega,10*n+(c.toNat-48),a1+1,g5,mI,rfl,hs,aj,by omega,by omega,by omega,rfl,ha.kp rfl⟩
  have CR:s.drop a1=[]:=abr (by omega);have hd:fY 0 (s.drop a0)=(n,s.drop a1):=by rw[←T4,CR,IU]
  have e1:decide ((a1:Int)<(s.length:Int))=false:=by simp;omega
  refine bT<|ak<|ak ?_;apply aO hs (cV (cV (cV (cV (cV (gR [])))))) 44 [(43,52)] (by kernel_rfl) rfl
  ·exact cY [[],[0],[1],[2],[3],[4],[5,4],[6,4],[7,4],[4],[9,4],[10,4],[11,4],[12,4]] [.o 0,.o 0,.o 0] hs rfl<|aW [(8,17),(13,22),(4,13)] (fun gd hf=>dD rfl (bj rfl (congrArg Value.bool (show _=false from by rw[bX];exact e1))))<|qo [[4,14],[15],[16],[17,16],[18,16],[19,16],[16],[21,16],[22,16],[23,16],[20,24,16],[25,16],[16,26],[27],[28],[29,28],[30,28],[31,28],[28],[33,28],[34,28],[35,28],[32,36,28],[37,28],[28,38],[39],[40],[41,40],[40,42]] rfl
  clear hs;intro g1 hs ag;replace aj:=G.le.trans aj ag;refine bE<|bI rfl ?_;have mP:eu true (s.drop a0)=(n,!oC (s.drop a0),s.drop a1):=by unfold eu;rw[if_pos rfl,hd]
  rw[mP,sn hd h0 h1];dsimp only;clear mP;by_cases zd:a1=a0
  ·subst zd;rw[decide_eq_true (rfl:a1=a1),abH,abH];refine aJ<|aM<|aM<|b_<|ai<|ak<|jd 7 [.o 0] hs rfl<|bd 80 (b':=true) (by simp) rfl<|aF rfl<|bZ rfl<|ah<|Wp 3 rfl<|dC 0 hs rfl fun g1 hs ag=>?_;replace aj:=G.le.trans aj ag;exact bE<|aD rfl<|au (eC rfl (df.intro aj ⟨rfl,a1,h1,rfl,hs⟩))
  rw[decide_eq_false zd,abE];refine aJ<|aM<|aM<|b_<|ai<|ak<|jd 7 [.o 0] hs rfl<|bd 80 (b':=false) (by simp;omega) rfl<|Wm 8 [.o 0] hs rfl ?_;by_cases AG:1<a1-a0
  ·refine bd 88 (b':=true) (by rw[wq];simp;omega) rfl ?_;have zR:a0<s.length:=by omega
   rw[decide_eq_true AG,abf,aas zR];obtain⟨c0,pg⟩: ∃c0,s[a0]=c0:=⟨_,rfl⟩;refine Wm 5 [.o 0] hs rfl<|aN rfl rfl<|fH T.ok (s:=s) (n:=(a0:Int)) rfl rfl rfl rfl rfl (by omega) (by simpa using zR)<|jK (.int .u8 (c0.toNat:Int)) (t:=94) rfl (congrArg (fun z:UInt8=>Value.int .u8 (z.toNat:Int)) pg) ?_;rw[pg];by_cases E4:c0=48
   ·subst E4;rw[show((some (48:UInt8))==some 48)=true from rfl,abH];refine aF rfl<|bZ rfl<|ah<|Wp 3 rfl<|dC 0 hs rfl fun g1 hs ag=>?_;replace aj:=G.le.trans aj ag;exact bE<|aD rfl<|au (eC rfl (df.intro aj ⟨rfl,a1,h1,rfl,hs⟩))
   have fL:(c0.toNat:Int)≠48:=fun h=>E4 (UInt8.toNat_inj.1 (show c0.toNat=48 by omega));rw[show(some c0==some 48)=false from by simpa using E4,abE];refine Wp 4 rfl<|bd 98 (b':=false) (by simp;omega) rfl ?_;by_cases nJ:1000000<n
   ·rw[decide_eq_true nJ];refine aF rfl<|aG (b:=_) ?_ rfl ?_
    ·simp;omega
    refine ah<|Wp 3 rfl<|dC 0 hs rfl fun g1 hs ag=>?_;replace aj:=G.le.trans aj ag;exact bE<|aD rfl<|au (eC rfl (df.intro aj ⟨rfl,a1,h1,rfl,hs⟩))
   rw[decide_eq_false nJ];refine aF rfl<|bg (b:=_) ?_ rfl ?_
   ·simp;omega
   exact ar<|ai<|aD rfl<|au (eC rfl (df.intro aj ⟨rfl,a1,h1,rfl,hs⟩))
  refine bd 88 (b':=false) (by rw[wq];simp;omega) rfl ?_;rw[decide_eq_false AG,aa6,abE];refine aF rfl ?_;by_cases nJ:1000000<n
  ·rw[decide_eq_true nJ];refine aG (b:=_) ?_ rfl ?_
   ·simp;omega
   refine ah<|Wp 3 rfl<|dC 0 hs rfl fun g1 hs ag=>?_;replace aj:=G.le.trans aj ag;exact bE<|aD rfl<|au (eC rfl (df.intro aj ⟨rfl,a1,h1,rfl,hs⟩))
  rw[decide_eq_false nJ];refine bg (b:=_) ?_ rfl ?_
  ·simp;omega
  exact ar<|ai<|aD rfl<|au (eC rfl (df.intro aj ⟨rfl,a1,h1,rfl,hs⟩))
theorem rr{f:Nat}{l:List Nat}{ok:Bool}{r:List UInt8}(h: ¬(ok=true∧r.head? =some 44)):jS f l ok r=(l,ok,r):=by
 cases f with
 |zero=>rfl
 |succ k=>rw[jS,if_neg h]
theorem IV{f:Nat}{l:List Nat}{t:List UInt8}(hf:t.length<f): ∃k,f=k+1∧jS f l true (44::t)=jS k (l++[(eu true t).1]) (eu true t).2.1 (eu true t).2.2:=by
 cases f with
 |zero=>omega
 |succ k=>exact⟨k,rfl,by rw[jS,if_pos ⟨rfl,rfl⟩];rfl⟩
theorem zS{b:Nat}{s:List UInt8}{a0:Nat}{ok:Bool}{g0 g:G}{L:List dc}(Ic:a0≤s.length)(ee:s.length≤1000000)(hs:St g0 g (qp b s a0 ok::L)):
  CallsIn Wd 0 prog 241 #[vP b] g.w (df g fun g' r=>Rs g' r (ints (o7 ok (s.drop a0)).1)∧zQ b s L g0 g' (o7 ok (s.drop a0)).2.1 (o7 ok (s.drop a0)).2.2):=by
 have aj:=G.le.refl g;refine enter func241 rfl ntmps241 rfl<|aD rfl<|ck 1 rfl<|nb rfl (gI Ic ee hs) ?_;clear hs;rintro g1 _ ag ⟨rfl,a1,h1,xp,hs⟩;replace aj:=G.le.trans aj ag;have hR:jS (s.drop a0).length [(eu ok (s.drop a0)).1] (eu ok (s.drop a0)).2.1 (eu ok (s.drop a0)).2.2=o7 ok (s.drop a0):=rfl;have hlen:=vb ok (s.drop a0)
 have T6:a0≤a1:=by rw[←xp,aaM,aaM]at hlen;omega
 rw[←xp]at hR hlen;generalize(eu ok (s.drop a0)).1=n0 at*;generalize(eu ok (s.drop a0)).2.1=wv at*;generalize o7 ok (s.drop a0)=R0 at*;clear xp;refine iX [(0,vI (n0:Nat))] [vI (n0:Nat)] hs rfl rfl fun bl gl hs ag=>?_;replace aj:=G.le.trans aj ag;replace hs:=hs.front (i:=1) rfl;unfold qp at hs;have Na:(s.drop a1).length≤(s.drop a0).length:=hlen;generalize(s.drop a0).length=fu at*;clear hlen;refine aF rfl<|ak<|aw ?_
 refine aZ (fun m a' w=> ∃(f:Nat) (ns:List Nat) (E6:Bool) (a1:Nat) (ra:Option Addr) (rc:Nat) (g':G),jS f ns E6 (s.drop a1)=R0∧(s.drop a1).length≤f∧w=g'.w∧St g0 g' (vO b [.string (bs s),vI a1,.bool E6] 255:: .row 3 1 (.slice ra ns.length rc) ns.length ((ints ns).map (Value.int .i64))::L)∧G.le g g'∧a1≤s.length∧m=s.length-a1∧ns.length≤a1+1∧
   Fr 48 [] [(0,vP b),(3,.slice ra ns.length rc)] a') (s.length-a1) (fun a' ha=>⟨fu,[n0],wv,a1,_,_,gl,hR,Na,rfl,hs,aj,h1,rfl,by simp,ha.kp rfl⟩) ?_
 clear hs aj hR Na h1 T6;rintro m a' _ ⟨f,ns,E6,a1,ra,rc,g',hR,Na,rfl,hs,aj,h1,rfl,Fi,dT⟩;revert a';cases E6 with
 |false=>
  refine bT<|ak<|ak ?_;apply aO hs (cV (cV (cV (gR [])))) 28 [(27,34)] (by kernel_rfl) rfl
  ·exact mX [[],[0],[1],[2],[3],[4],[5,4],[6,4],[7,4],[4],[9,4],[10,4],[11,4],[12,4],[8,13,4],[4,14],[15],[16],[17,16],[18,16],[19,16],[16],[21,16],[22,16],[23,16],[20,24,16],[25,16],[16,26]] [.o 0] hs rfl
  clear hs;intro g1 hs ag;replace aj:=G.le.trans aj ag;rw[rr (by rintro⟨h,_⟩;cases h)]at hR;refine bE<|bI rfl ?_;obtain⟨gy,IW,Jg,L6,ph⟩:=hs.cD (α:=Int) (xs:=ints ns) (i:=1) rfl (cR.ints _ _);have ag:=L6;rw[←IW];replace hs:=Jg;clear Jg;replace aj:=G.le.trans aj ag;rw[←hR];refine aJ<|aM<|aM<|b_<|ai<|aD rfl<|au (eC rfl (df.intro aj ⟨?_,a1,h1,rfl,hs⟩));have e:(ints ns).length=ns.length:=ru ns;rw[←e];rw[←e]at ph;exact ph
 |true=>
  by_cases aV:a1<s.length
  ·obtain⟨c,hc⟩: ∃c,s[a1]=c:=⟨_,rfl⟩;have xp:s.drop a1=c::s.drop (a1+1):=by rw[aa7 aV,hc]
   have e1:decide ((a1:Int)<(s.length:Int))=true:=by simp;omega
   cases e2:((c.toNat:Int)==44)with
   |false=>
    refine bT<|ak<|ak ?_;apply aO hs (cV (cV (cV (gR [])))) 28 [(27,34)] (by kernel_rfl) rfl
    ·exact cY [[],[0],[1],[2],[3],[4],[5,4],[6,4],[7,4],[4],[9,4],[10,4],[11,4],[12,4]] [.o 0,.o 0,.o 0] hs rfl<|aW [(8,15),(13,20),(4,11)] (fun gd hf=>dD rfl (bj rfl (congrArg Value.bool (show _=true from by rw[bX];exact e1))))<|cY [[4,14],[15],[16],[17,16],[18,16],[19,16],[16],[21,16],[22,16],[23,16]] [.o 0,.o 0] hs rfl<|aW [(20,27),(24,31),(16,23)] (fun gd hf=>dD rfl (ay rfl (fH T.ok (s:=s) (n:=(a1:Int)) rfl rfl rfl rfl rfl (by omega) (by simpa using aV) (cC (congrArg (fun z:UInt8=>Value.int .u8 (z.toNat:Int)) hc)))))<|aW [(25,32),(16,23)] (fun gd hf=>bN rfl (bj rfl (congrArg Value.bool (show _=false from by exact e2))))<|qo [[16,26]] rfl
    clear hs;intro g1 hs ag;replace aj:=G.le.trans aj ag;rw[rr (by rintro⟨_,h⟩;rw[xp]at h;have:=aax h;subst this;cases e2)]at hR;refine bE<|bI rfl ?_;obtain⟨gy,IW,Jg,L6,ph⟩:=hs.cD (α:=Int) (xs:=ints ns) (i:=1) rfl (cR.ints _ _);have ag:=L6;rw[←IW];replace hs:=Jg;clear Jg;replace aj:=G.le.trans aj ag;rw[←hR];refine aJ<|aM<|aM<|b_<|ai<|aD rfl<|au (eC rfl (df.intro aj ⟨?_,a1,h1,rfl,hs⟩));have e:(ints ns).length=ns.length:=ru ns;rw[←e];rw[←e]at ph;exact ph
   |true=>
    have XD:c=44:=UInt8.toNat_inj.1 (show c.toNat=44 by have:=eq_of_beq e2;omega);refine bT<|ak<|ak ?_;apply aO hs (cV (cV (cV (gR [])))) 28 [(27,34)] (by kernel_rfl) rfl
    ·exact cY [[],[0],[1],[2],[3],[4],[5,4],[6,4],[7,4],[4],[9,4],[10,4],[11,4],[12,4]] [.o 0,.o 0,.o 0] hs rfl<|aW [(8,15),(13,20),(4,11)] (fun gd hf=>dD rfl (bj rfl (congrArg Value.bool (show _=true from by rw[bX];exact e1))))<|cY [[4,14],[15],[16],[17,16],[18,16],[19,16],[16],[21,16],[22,16],[23,16]] [.o 0,.o 0] hs rfl<|aW [(20,27),(24,31),(16,23)] (fun gd hf=>dD rfl (ay rfl (fH T.ok (s:=s) (n:=(a1:Int)) rfl rfl rfl rfl rfl (by omega) (by simpa using aV) (cC (congrArg (fun z:UInt8=>Value.int .u8 (z.toNat:Int)) hc)))))<|aW [(25,32),(16,23)] (fun gd hf=>bN rfl (bj rfl (congrArg Value.bool (show _=true from by exact e2))))<|qo [[16,26]] rfl
    clear hs;intro g1 hs ag;replace aj:=G.le.trans aj ag;subst XD;rw[xp]at hR Na;obtain⟨k,rfl,mI⟩:=IV (f:=f) (l:=ns) (t:=s.drop (a1+1)) (by simp only[aaw]at Na;omega);rw[mI]at hR;clear mI xp hc e2;have aao:(s.drop (a1+1)).length≤k:=by simp only[aaw]at Na;omega
    refine bE<|bZ rfl<|ar<|ai<|aw<|jd 7 [.o 0] hs rfl<|jK (vI ((a1+1:Nat):Int)) (t:=39) rfl (congrArg (Value.int .i64) (by rw[wq];omega))<|dC 0 hs rfl fun g5 hs ag=>?_;replace aj:=G.le.trans aj ag;replace hs:St g0 g5 (qp b s (a1+1) true:: .row 3 1 (.slice ra ns.length rc) ns.length ((ints ns).map (Value.int .i64))::L):=hs;refine bE<|ah<|Wp 2 rfl<|nb rfl (gI (by omega) ee hs) ?_;clear hs;rintro g6 _ ag ⟨rfl,a2,h2,xp,hs⟩;replace aj:=G.le.trans aj ag;have hlen:=vb true (s.drop (a1+1));rw[←xp]at hR hlen
    have Hv:a1+1≤a2:=by rw[aaM,aaM]at hlen;omega
    generalize(eu true (s.drop (a1+1))).1=n2 at*;generalize(eu true (s.drop (a1+1))).2.1=w3 at*;unfold qp at hs;refine iX [(0,vI (n2:Nat))] [vI (n2:Nat)] hs rfl rfl fun bl gl hs ag=>?_;replace aj:=G.le.trans aj ag;refine aN rfl rfl<|ba T.ok 2 rfl hs rfl rfl rfl rfl rfl rfl rfl (by decide) rfl (Src.dZ (hs.own 0 _ rfl).1).2 (by simp[Value.oneCell']) (by show(ns.length+1)*8≤_;omega) (by unfold maxLen;show ns.length+1≤_;omega) fun a9 c9 g9 hs ag=>?_;replace aj:=G.le.trans aj ag;have e5:(ints ns).map (Value.int .i64)++[Value.int .i64 (n2:Nat)]=(ints (ns++[n2])).map (Value.int .i64):=by simp[ints]
    replace hs:St g0 g9 (vO b [.string (bs s),vI a2,.bool w3] 255:: .row 3 1 (.slice a9 (ns++[n2]).length c9) (ns++[n2]).length ((ints (ns++[n2])).map (Value.int .i64))::L):=by rw[←e5,aal];exact hs.drop 0
    exact Wp 1 rfl<|an<|aX<|fun a ha=>⟨s.length-a2,by omega,k,ns++[n2],w3,a2,a9,c9,g9,hR,by omega,rfl,hs,aj,h2,rfl,by rw[aal,aaF];omega,ha.keep ⟨rfl,kV rfl (by rw[aal];rfl),trivial⟩⟩
  have CR:s.drop a1=[]:=abr (by omega);have e1:decide ((a1:Int)<(s.length:Int))=false:=by simp;omega
  refine bT<|ak<|ak ?_;apply aO hs (cV (cV (cV (gR [])))) 28 [(27,34)] (by kernel_rfl) rfl
  ·exact cY [[],[0],[1],[2],[3],[4],[5,4],[6,4],[7,4],[4],[9,4],[10,4],[11,4],[12,4]] [.o 0,.o 0,.o 0] hs rfl<|aW [(8,15),(13,20),(4,11)] (fun gd hf=>dD rfl (bj rfl (congrArg Value.bool (show _=false from by rw[bX];exact e1))))<|qo [[4,14],[15],[16],[17,16],[18,16],[19,16],[16],[21,16],[22,16],[23,16],[20,24,16],[25,16],[16,26]] rfl
  clear hs;intro g1 hs ag;replace aj:=G.le.trans aj ag;rw[rr (by rintro⟨_,h⟩;rw[CR]at h;cases h)]at hR;refine bE<|bI rfl ?_;obtain⟨gy,IW,Jg,L6,ph⟩:=hs.cD (α:=Int) (xs:=ints ns) (i:=1) rfl (cR.ints _ _);have ag:=L6;rw[←IW];replace hs:=Jg;clear Jg;replace aj:=G.le.trans aj ag;rw[←hR];refine aJ<|aM<|aM<|b_<|ai<|aD rfl<|au (eC rfl (df.intro aj ⟨?_,a1,h1,rfl,hs⟩));have e:(ints ns).length=ns.length:=ru ns;rw[←e];rw[←e]at ph;exact ph
theorem CS{s r:List UInt8}{a:Nat}{ok:Bool}(h:s.drop a=r)(ha:a≤s.length):Ay ok r=(ok&&decide ((a:Int)=(s.length:Int))):=by
 subst h;unfold Ay;congr 1;by_cases hh:a=s.length
 ·subst hh;simp
 have h2:s.drop a≠[]:=by intro h;have:=congrArg List.length h;rw[aaM]at this;simp at this;omega
 cases hd:s.drop a with
 |nil=>exact absurd hd h2
 |cons x y=>simp;omega
end Go.Proofs.YtkpojaffabjibaaGreatDoor

/- Parts of the proof, from: A region that draws its order, in which one operation may change what was owned before it (an append in place): what it needs comes ahead of it, what is free may come before or behind it. -/
import Derived.Test.YtgehbndkogohpaaGreatDoorYb
import Derived.Deep.Slices
import Derived.ProofKit
import Derived.OpenShut
import Derived.RecoverIn
import Derived.Laws.IdiomStrings
import Derived.Test.YtgehbndkogohpaaGreatDoorYa
namespace Go.K
open Go Go.RowKit
variable {F:Fence} {P:Program} {N:Nat} {ds:List Deferred} {ops:Array Oper} {Q:Exit→Act→World→Prop} {φs:List Fact} {l0:Env} {gd:G}
def zO(e i:Nat)(g g':G):Prop:=if i=e then g.le g' else a_ g g'
def wV(F:Fence)(P:Program)(N:Nat)(ds:List Deferred)(ops:Array Oper)(Q:Exit→Act→World→Prop)(φs:List Fact)(l0:Env)(gd:G)(tf:List Nat)(e i:Nat)(o:Oper):Prop:=
 ∀g',gd.le g'→((tf.contains i=true∨i=e)→a_ gd g')→QA φs g' (eb ops o) l0 fun env=>
  match mx ops env o.guard with
  |some true=>cD F P N ds o env g'.w Q fun v w'=> ∃dc,dc.w=w'∧zO e i g' dc∧(fQ φs i).p v dc
  |some false=>(fQ φs i).p undef g'
  |none=>False
def oc(F:Fence)(P:Program)(N:Nat)(ds:List Deferred)(ops:Array Oper)(Q:Exit→Act→World→Prop)(φs:List Fact)(l0:Env)(gd:G)(tf:List Nat)(e:Nat):Nat→List Oper→Prop
 |_,[]=>True
 |i,o::os=>wV F P N ds ops Q φs l0 gd tf e i o∧oc F P N ds ops Q φs l0 gd tf e (i+1) os
def uK(ops:Array Oper)(tf:List Nat)(e:Nat):Bool:=
 tf.all fun i=>Nat.blt i e&&(e::tf).any fun j=>match ops[j]? with|some o=>(kH o).contains i|none=>false
theorem oc.at{tf:List Nat}{e:Nat}: ∀{l:List Oper} {i0:Nat},oc F P N ds ops Q φs l0 gd tf e i0 l→ ∀(j:Nat) o,l[j]? =some o→wV F P N ds ops Q φs l0 gd tf e (i0+j) o
 |[],_,_,j,o,h=>by simp at h
 |x::l,i0,hs,0,o,h=>by simp only[List.getElem?_cons_zero,Option.some.injEq]at h;subst h;exact hs.1
 |x::l,i0,hs,j+1,o,h=>by simp only[List.getElem?_cons_succ]at h;have:=oc.at (i0:=i0+1) hs.2 j o h;rw[show i0+(j+1)=i0+1+j from by omega];exact this
theorem CH{id:Nat}{g:G}(hF: ∀f,F.fn f)(hm:P.follows .mixedOrders=true)(φs:List Fact)(m:Nat)(outs:List (Nat×Nat))(own tf:List Nat)(e:Nat)(lT:n_ N ops l0 m=true)(dT:CG ops own e m outs=true)(DO:uK ops tf e=true)(hsoft:jc (e::own) 0 φs)
  (houts:outs.all (fun p=>Nat.blt p.1 m&&(dh ops p.1==some p.2))=true)
  (gV:oc F P N ds ops Q φs l0 g.dr tf e 0 (ops.toList.take m))
  (iT: ∀g',g.dr.le g'→QA φs g' outs l0 fun env=>WL F P N ds ops Q (ops.toList.drop m) env g'.w):W F P N ds (.region id ops true) Q l0 g.w:=by
 intro a ha;simp only[n_,Bool.and_eq_true,List.all_eq_true,List.mem_range]at lT;obtain⟨⟨⟨c1,c2⟩,c3⟩,c4⟩:=lT;have c4:m≤ops.size:=Nat.le_of_ble_eq_true c4;have k1: ∀i o,ops[i]? =some o→ ∀j∈kH o,j<i:=by intro i o ho j hj;have:=c1 i (Array.getElem?_eq_some_iff.1 ho).1;rw[ho]at this;have:=(List.all_eq_true.1 this) j hj;simpa [Nat.blt_eq]using this
 have k2: ∀j o,m≤j→ops[j]? =some o→ ∀k,k<j→ ∃i' o',k<i'∧i'≤j∧ops[i']? =some o'∧k∈kH o':=by
  intro j o hj ho k hk;have:=c2 j (Array.getElem?_eq_some_iff.1 ho).1;simp only[Bool.or_eq_true]at this;rcases this with h|h
  ·have:j<m:=by simpa [Nat.blt_eq]using h
   omega
  have:=(List.all_eq_true.1 h) k (List.mem_range.2 hk);obtain⟨i',h1,h2⟩:=List.any_eq_true.1 this;simp only[Bool.and_eq_true]at h2;have h3:=List.mem_range.1 h1;cases pn:ops[i']? with
  |none=>rw[pn]at h2;simp at h2
  |some o'=>
   rw[pn]at h2;exact⟨i',o',by simpa [Nat.blt_eq]using h2.1,by omega,pn,by simpa using h2.2⟩
 have k4: ∀(listed:Array Bool),(∀k o,listed.getD k false=true→ops[k]? =some o→ ∀e∈kH o,listed.getD e false=true)→ ∀j o,m≤j→ops[j]? =some o→(∀e∈kH o,listed.getD e false=true)→ ∀k,k<j→listed.getD k false=true:=by
  intro listed fr j o hj ho cR;have: ∀d k,k<j→j-k=d→listed.getD k false=true:=by
   intro d
   induction d using Nat.strongRecOn with
   |_ d Bt=>
    intro k hk hd;obtain⟨i',o',h1,h2,h3,h4⟩:=k2 j o hj ho k hk;rcases Nat.lt_or_ge i' j with h|h
    ·exact fr i' o' (Bt (j-i') (by omega) i' h rfl) h3 k h4
    obtain rfl:i'=j:=by omega
    rw[ho]at h3;obtain rfl:=Option.some.inj h3;exact cR k h4
  exact fun k hk=>this _ k hk rfl
 have k3: ∀i,i<m→ ∃d,dh ops i=some d∧d<N∧lk l0 d=none∧ ∀j,j<m→j≠i→ ∃e,dh ops j=some e∧e≠d:=by
  intro i hi;have:=c3 i hi;cases hd:dh ops i with
  |none=>simp[hd]at this
  |some d=>
   simp only[hd,Bool.and_eq_true,List.all_eq_true,List.mem_range,Bool.or_eq_true]at this;refine⟨d,rfl,by simpa [Nat.blt_eq]using this.1.1,by simpa using this.1.2,fun j hj fB=>?_⟩;rcases this.2 j hj with h|h
   ·exact absurd (by simpa using h) fB
   cases he:dh ops j with
   |none=>simp[he]at h
   |some e=>exact⟨e,rfl,by simpa [he]using h⟩
 simp only[CG,Bool.and_eq_true,List.all_eq_true,List.mem_range]at dT;have o1: ∀p∈outs,own.contains p.1=false:=fun p hp=>by simpa using dT.1 p hp
 have o2: ∀i o,i<m→i≠e→ops[i]? =some o→ ∀p∈eb ops o,own.contains p.1=false:=by
  intro i o hi fB ho p hp;have:=dT.2 i hi;rw[ho]at this;simp only[Bool.or_eq_true]at this;rcases this with h|h
  ·exact absurd (by simpa using h) fB
  simpa using(List.all_eq_true.1 h) p hp
 have Tx: ∀(listed:Array Bool),(∀k o,listed.getD k false=true→ops[k]? =some o→ ∀e∈kH o,listed.getD e false=true)→listed.getD e false=true→ ∀i,tf.contains i=true→listed.getD i false=true:=by
  intro listed fr hle;have: ∀d i,tf.contains i=true→e-i=d→listed.getD i false=true:=by
   intro d
   induction d using Nat.strongRecOn with
   |_ d Bt=>
    intro i hi hd;have h:=(List.all_eq_true.1 DO) i (by simpa using hi);simp only[Bool.and_eq_true,List.any_eq_true]at h;obtain⟨vK,j,hj,s_⟩:=h;have vK:i<e:=by simpa [Nat.blt_eq]using vK
    cases pn:ops[j]? with
    |none=>rw[pn]at s_;simp at s_
    |some o'=>
     rw[pn]at s_;have vv:=k1 j o' pn i (by simpa using s_);refine fr j o' ?_ pn i (by simpa using s_);rcases List.mem_cons.1 hj with rfl|hj
     ·exact hle
     have LG:=(List.all_eq_true.1 DO) j hj;simp only[Bool.and_eq_true]at LG;have LG:j<e:=by simpa [Nat.blt_eq]using LG.1
     exact Bt (e-j) (by omega) j (by simpa using hj) rfl
  exact fun i hi=>this _ i hi rfl
 let waits:Nat→Array Bool→Prop:=fun j listed=>(∃p∈outs,p.1=j)∨ ∃i o,i<m∧listed.getD i false=false∧ops[i]? =some o∧ ∃p∈eb ops o,p.1=j
 refine wpIn_region_any hm ?_;have key: ∀(fuel:Nat) (listed:Array Bool) (a:Act) (g':G),listed.size=ops.size→(g.dr.le g'∧(listed.getD e false=false→a_ g.dr g'))→Fr N ds l0 a→
   (∀i,i<m→listed.getD i false=true→ ∃d v,dh ops i=some d∧a.tmps[d]? =some v∧(waits i listed→(fQ φs i).p v g'))→(∀j,m≤j→j<ops.size→listed.getD j false=false)→(∀k o,listed.getD k false=true→ops[k]? =some o→ ∀e∈kH o,listed.getD e false=true)→
   (ops.size-((List.range ops.size).filter fun i=>listed.getD i false).length≤fuel)→wpAnyIn F 0 P .any ops Q fuel listed a g'.w:=by
  intro fuel
  induction fuel with
  |zero=>
   intro listed a g' cP hf ha ec fG fr qP;have cR: ∀j,j<ops.size→listed.getD j false=true:=by
    have hlen:((List.range ops.size).filter fun i=>listed.getD i false).length=(List.range ops.size).length:=by have:=List.length_filter_le (fun i=>listed.getD i false) (List.range ops.size);simp only[List.length_range]at this⊢;omega
    have:=List.length_filter_eq_length_iff.1 hlen;intro j hj;exact this j (List.mem_range.2 hj)
   have Dj:m=ops.size:=by
    rcases Nat.lt_or_ge m ops.size with h|h
    ·have:=fG m (Nat.le_refl _) h;rw[cR m h]at this;cases this
    omega
   obtain⟨env,hW,gk⟩:=jM outs (iT g' hf.1) ha (fun p hp=>by
    have:=(List.all_eq_true.1 houts) p hp;simp only[Bool.and_eq_true,beq_iff_eq]at this;have bC:p.1<m:=by simpa [Nat.blt_eq]using this.1
    obtain⟨d,v,hd,hv,jF⟩:=ec p.1 bC (cR _ (by omega));replace jF:=jF (.inl ⟨p,hp,rfl⟩);rw[this.2]at hd;obtain rfl:=Option.some.inj hd;exact⟨v,hv,jF⟩)
   refine iG k1 0 ops.size listed a g'.w cP (Nat.le_refl _) (fun j o hj ho=>?_) (fun j hj=>⟨fun _=>hj,fun _=>cR j hj⟩) (by omega) (by rw[←Dj];exact hW a gk);have:=(Array.getElem?_eq_some_iff.1 ho).1;omega
  |succ fuel ih=>
   intro listed a g' cP hf ha ec fG fr qP;by_cases gj: ∀j,j<m→listed.getD j false=true
   ·obtain⟨env,hW,gk⟩:=jM outs (iT g' hf.1) ha (fun p hp=>by
     have:=(List.all_eq_true.1 houts) p hp;simp only[Bool.and_eq_true,beq_iff_eq]at this;have bC:p.1<m:=by simpa [Nat.blt_eq]using this.1
     obtain⟨d,v,hd,hv,jF⟩:=ec p.1 bC (gj _ bC);replace jF:=jF (.inl ⟨p,hp,rfl⟩);rw[this.2]at hd;obtain rfl:=Option.some.inj hd;exact⟨v,hv,jF⟩)
    refine iG k1 (fuel+1) m listed a g'.w cP c4 (fun j o hj ho=>k2 j o hj ho) (fun j hj=>⟨fun h=>?_,fun h=>gj j h⟩) ?_ (hW a gk)
    ·rcases Nat.lt_or_ge j m with h'|h'
     ·exact h'
     rw[fG j h' hj]at h;cases h
    have hle:((List.range ops.size).filter fun i=>listed.getD i false).length≤m:=by
     have mS:((List.range ops.size).filter fun i=>listed.getD i false).length≤((List.range ops.size).filter fun i=>decide (i<m)).length:=by
      refine List.Sublist.length_le ?_;rw[show((List.range ops.size).filter fun i=>listed.getD i false)=((List.range ops.size).filter fun i=>decide (i<m)).filter (fun i=>listed.getD i false)from ?_]
      ·exact List.filter_sublist
      rw[List.filter_filter];refine List.filter_congr fun i hi=>?_;have hi:=List.mem_range.1 hi;by_cases h:i<m
      ·simp[h]
      rw[fG i (by omega) hi];simp
     have:((List.range ops.size).filter fun i=>decide (i<m)).length=m:=by
      have e:ops.size=m+(ops.size-m):=by omega
      rw[e,List.range_add,List.filter_append,List.length_append,List.filter_eq_self.2 (by intro x hx;simpa using hx),List.filter_eq_nil_iff.2 (by intro x hx;obtain⟨y,_,rfl⟩:=List.mem_map.1 hx;simp)];simp
     omega
    omega
   --oP of yZ first part is not listed:yZ least Iy is ready
   have hex: ∃j,j<m∧listed.getD j false=false∧ ∀k,k<j→listed.getD k false=true:=by
    have: ∃j,j<m∧listed.getD j false=false:=by
     apply Classical.byContradiction;intro dx;apply gj;intro j hj;cases hc:listed.getD j false with
     |true=>rfl
     |false=>exact absurd ⟨j,hj,hc⟩ dx
    obtain⟨j,hj⟩:=this
    induction j using Nat.strongRecOn with
    |_ j Iz=>
     by_cases hk: ∃k,k<j∧listed.getD k false=false
     ·obtain⟨k,o_,yU⟩:=hk;exact Iz k o_ ⟨by omega,yU⟩
     refine⟨j,hj.1,hj.2,fun k o_=>?_⟩;cases hc:listed.getD k false with
     |true=>rfl
     |false=>exact absurd ⟨k,o_,hc⟩ hk
   obtain⟨j0,Rb,zN,s_⟩:=hex;have gW:j0∈Region.ready .any ops listed:=by
    rw[eL];have bC:j0<ops.size:=by omega
    refine⟨by rw[getD_lt (cP▸bC) true false];exact zN,_,Array.getElem?_eq_getElem bC,fun k hk=>s_ k (k1 j0 _ (Array.getElem?_eq_getElem bC) k hk)⟩
   refine⟨fun h0=>(by rw[h0]at gW;cases gW),fun i hi=>?_⟩;obtain⟨h0,o,ho,cR⟩:=eL.1 hi;have mq:i<ops.size:=(Array.getElem?_eq_some_iff.1 ho).1;rw[getD_lt (cP▸mq) true false]at h0;have oa:i<m:=by
    rcases Nat.lt_or_ge i m with h|h
    ·exact h
    have:=k4 listed fr i o h ho cR j0 (by omega);rw[zN]at this;cases this
   obtain⟨d,hd,P6,P7,F9⟩:=k3 i oa;have rr:o.dst=some d:=by unfold dh at hd;rw[ho]at hd;exact hd
   have jZ:=gV.at (i0:=0) i o (by rw[List.getElem?_take_of_lt oa];simpa using ho);rw[Nat.zero_add]at jZ;have Xh:(tf.contains i=true∨i=e)→a_ g.dr g':=by
    intro hi;refine hf.2 ?_;cases hle:listed.getD e false with
    |false=>rfl
    |true=>
     exfalso;rcases hi with hi|hi
     ·have:=Tx listed fr hle i hi;rw[this]at h0;cases h0
     subst hi;rw[hle]at h0;cases h0
   have mT: ∀p∈eb ops o,∃v,a.tmps[p.2]? =some v∧(fQ φs p.1).p v g':=by
    intro p hp;have Mw:=hp;unfold eb at hp;obtain⟨j,hj,uJ⟩:=List.mem_filterMap.1 hp;cases wU:dh ops j with
    |none=>simp[wU]at uJ
    |some e=>
     simp only[wU]at uJ;have IA:j<m:=by have:=k1 i o ho j hj;omega
     obtain⟨d',v,td,hv,jF⟩:=ec j IA (cR j hj);rw[wU]at td;obtain rfl:=Option.some.inj td;have Bu: ∀(c:Bool) (q:Nat×Nat),(bif c then some q else none)=some p→q=p:=by
      intro c q h;cases c with
      |true=>exact Option.some.inj h
      |false=>cases h
     obtain rfl:=Bu _ _ uJ;exact⟨v,hv,jF (.inr ⟨i,o,oa,h0,ho,_,Mw,rfl⟩)⟩
   obtain⟨env,hk,gk⟩:=jM (eb ops o) (jZ g' hf.1 Xh) ha mT;have jb: ∀(a':Act) (dc:G) (v:Value),a'=a.put o.dst v→zO e i g' dc→(fQ φs i).p v dc→wpAnyIn F 0 P .any ops Q fuel (listed.setIfInBounds i true) a' dc.w:=by
    intro a' dc v he eu jF;have Bv:g.dr.le dc∧((listed.setIfInBounds i true).getD e false=false→a_ g.dr dc):=by
     unfold zO at eu;split at eu
     ·rename_i vK;refine⟨hf.1.trans eu,fun hl=>?_⟩;subst vK;simp[cP,mq]at hl
     rename_i vK;refine⟨hf.1.trans eu.le,fun hl=>?_⟩;refine(hf.2 ?_).trans eu;have:(listed.setIfInBounds i true).getD e false=listed.getD e false:=by simp only[Array.getD_eq_getD_getElem?];rw[Array.getElem?_setIfInBounds_ne vK]
     rw[←this];exact hl
    have nB: ∀t,t≠d→a'.tmps[t]? =a.tmps[t]?:=fun t ht=>by rw[he,rr];simp only[Act.put];rw[Array.getElem?_setIfInBounds_ne (fun e=>ht e.symm)]
    have pv:a'.tmps[d]? =some v:=by rw[he,rr];simp only[Act.put];rw[Array.getElem?_setIfInBounds_self,if_pos (by rw[ha.size];exact P6)]
    have gJ: ∀k,k≠i→(listed.setIfInBounds i true).getD k false=listed.getD k false:=fun k hk=>by simp only[Array.getD_eq_getD_getElem?];rw[Array.getElem?_setIfInBounds_ne (fun e=>hk e.symm)]
    have dn:(listed.setIfInBounds i true).getD i false=true:=by simp[cP,mq]
    refine ih _ a' dc (by simpa using cP) Bv ⟨by rw[he,rr];exact ha.defers,by rw[he,rr];simp[Act.put,ha.size],fun t u hu=>?_⟩ (fun k hk lg=>?_) (fun j hj F_=>?_) (fun k o' hk yb e he=>?_) ?_
    ·have J5:t≠d:=fun e=>by subst e;rw[P7]at hu;cases hu
     rw[nB t J5];exact ha.get t u hu
    ·by_cases jK:k=i
     ·subst jK;exact⟨d,v,hd,pv,fun _=>jF⟩
     rw[gJ k jK]at lg;obtain⟨d',v',td,DN,yc⟩:=ec k hk lg;obtain⟨e,J6,J7⟩:=F9 k hk jK;rw[td]at J6;obtain rfl:=Option.some.inj J6;refine⟨d',v',td,by rw[nB d' J7];exact DN,fun P8=>?_⟩;have LC:waits k listed:=by
      rcases P8 with h|⟨i2,LD,h1,h2,h3⟩
      ·exact .inl h
      refine .inr ⟨i2,LD,h1,?_,h3⟩;by_cases h4:i2=i
      ·subst h4;rw[dn]at h2;cases h2
      rw[gJ i2 h4]at h2;exact h2
     have hp:=yc LC;unfold zO at eu;split at eu
     ·rename_i vK;rcases jc.at hsoft k with h|h
      ·rw[Nat.zero_add]at h;replace h:own.contains k=true:=by
        have IB:(k==e)=false:=by simp;exact fun q=>jK (q.trans vK.symm)
        simp only[List.contains_cons,IB,Bool.false_or]at h;exact h
       rcases P8 with⟨p,o9,Cz⟩|⟨i2,LD,h1,h2,h3,p,o9,Cz⟩
       ·have:=o1 p o9;rw[Cz,h]at this;cases this
       by_cases h4:i2=e
       ·rw[h4,←vK,dn]at h2;cases h2
       have:=o2 i2 LD h1 h4 h3 p o9;rw[Cz,h]at this;cases this
      exact h _ _ _ eu hp
     exact(fQ φs k).mono _ _ _ eu hp
    ·rw[gJ j (by omega)];exact fG j hj F_
    ·have hle: ∀x,listed.getD x false=true→(listed.setIfInBounds i true).getD x false=true:=fun x hx=>by
      by_cases yV:x=i
      ·subst yV;exact dn
      rw[gJ x yV];exact hx
     by_cases jK:k=i
     ·subst jK;rw[ho]at yb;obtain rfl:=Option.some.inj yb;exact hle e (cR e he)
     rw[gJ k jK]at hk;exact hle e (fr k o' hk yb e he)
    have bC:((List.range ops.size).filter fun k=>listed.getD k false).length<((List.range ops.size).filter fun k=>(listed.setIfInBounds i true).getD k false).length:=by
     have mS:List.Sublist ((List.range ops.size).filter fun k=>listed.getD k false) ((List.range ops.size).filter fun k=>(listed.setIfInBounds i true).getD k false):=by
      have e:((List.range ops.size).filter fun k=>listed.getD k false)=((List.range ops.size).filter fun k=>(listed.setIfInBounds i true).getD k false).filter (fun k=>listed.getD k false):=by
       rw[List.filter_filter];refine List.filter_congr fun k _=>?_;by_cases jK:k=i
       ·subst jK;rw[dn];simp
       rw[gJ k jK];simp
      rw[e];exact List.filter_sublist
     refine Nat.lt_of_le_of_ne mS.length_le fun e=>?_;have:=mS.eq_of_length e;have AM:i∈((List.range ops.size).filter fun k=>(listed.setIfInBounds i true).getD k false):=List.mem_filter.2 ⟨List.mem_range.2 mq,dn⟩;rw[←this]at AM;have:=(List.mem_filter.1 AM).2;rw[h0]at this;cases this
    omega
   unfold wpOpIn;rw[ho];simp only;cases hg:mx ops env o.guard with
   |none=>rw[hg]at hk;exact hk.elim
   |some b=>
    have lE:Region.wanted o (yielded ops a.tmps)=b:=jy (l:=env) (o:=o) hg gk;rw[hg]at hk;cases b with
    |true=>
     rw[if_pos lE];exact Oper.wpIn_mono (fun a' w' ⟨v,he,dc,hw,eu,jF⟩=>hw▸jb a' dc v he eu jF) (hk a gk)
    |false=>
     rw[if_neg (by rw[lE];simp)];exact⟨fun f _=>hF f,jb _ g' undef rfl (by unfold zO;split;exact G.le.refl _;exact a_.refl _) hk⟩
 refine key ops.size _ a g.dr (by simp) ⟨G.le.refl _,fun _=>a_.refl _⟩ ha (fun i hi hl=>?_) (fun j _ hj=>by simp[hj]) (fun k o hl=>?_) (by omega)
 ·simp only[Array.getD_eq_getD_getElem?,Array.getElem?_replicate]at hl;split at hl<;>simp at hl
 simp only[Array.getD_eq_getD_getElem?,Array.getElem?_replicate]at hl;split at hl<;>simp at hl
variable {tf:List Nat} {e:Nat} {os:List Oper} {o:Oper} {l:Env} {g:G}
theorem iC{i:Nat}(h:wV F P N ds ops Q φs l0 gd tf e i o)(h2:oc F P N ds ops Q φs l0 gd tf e (i+1) os):oc F P N ds ops Q φs l0 gd tf e i (o::os):=⟨h,h2⟩
theorem J8{i:Nat}:oc F P N ds ops Q φs l0 gd tf e i []:=trivial
theorem oR{g':G}: ∀(js:List (Nat×Nat)) (l:Env) (k k':Env→Prop),(∀env,k env→k' env)→QA φs g' js l k→QA φs g' js l k'
 |[],_,_,_,hk,h=>hk _ h
 |_::r,_,k,k',hk,h=>fun v hv=>oR r _ k k' hk (h v hv)
theorem Ga{i:Nat}(fB:Nat.beq i e=false){g':G}{env:Env}(hd:DK F P N ds ops Q (fQ φs i) g' o env):(match mx ops env o.guard with
  |some true=>cD F P N ds o env g'.w Q fun v w'=> ∃dc,dc.w=w'∧zO e i g' dc∧(fQ φs i).p v dc
  |some false=>(fQ φs i).p undef g'
  |none=>False):=by
 have LF:i≠e:=fun x=>by subst x;simp at fB
 unfold DK at hd;unfold zO;simp only[if_neg LF];exact hd
theorem nj{i:Nat}{js:List (Nat×Nat)}(hj:eb ops o=js)(fB:Nat.beq i e=false)(ha:tf.contains i=true)(h: ∀g',a_ gd g'→QA φs g' js l0 (DK F P N ds ops Q (fQ φs i) g' o)):wV F P N ds ops Q φs l0 gd tf e i o:=by subst hj;intro g' _ hf;exact oR _ _ _ _ (fun env hd=>Ga fB hd) (h g' (hf (.inl ha)))
theorem Gb{i:Nat}{js:List (Nat×Nat)}(hj:eb ops o=js)(fB:Nat.beq i e=false)(h: ∀g',gd.le g'→QA φs g' js l0 (DK F P N ds ops Q (fQ φs i) g' o)):wV F P N ds ops Q φs l0 gd tf e i o:=by subst hj;intro g' hf _;exact oR _ _ _ _ (fun env hd=>Ga fB hd) (h g' hf)
def DM(F:Fence)(P:Program)(N:Nat)(ds:List Deferred)(ops:Array Oper)(Q:Exit→Act→World→Prop)(φ:Fact)(g':G)(o:Oper)(env:Env):Prop:=
 mx ops env o.guard=some true∧cD F P N ds o env g'.w Q fun v w'=> ∃dc,dc.w=w'∧g'.le dc∧φ.p v dc
theorem J9{js:List (Nat×Nat)}(hj:eb ops o=js)(h: ∀g',a_ gd g'→QA φs g' js l0 (DM F P N ds ops Q (fQ φs e) g' o)):wV F P N ds ops Q φs l0 gd tf e e o:=by subst hj;intro g' _ hf;refine oR _ _ _ _ (fun env hd=>?_) (h g' (hf (.inr rfl)));obtain⟨hg,hd⟩:=hd;rw[hg];unfold zO;simp only[if_true];exact hd
theorem pb{c:Code}{w:World}{J':Act→World→Prop}(J:Act→World→Prop)(h:W F P N ds c (Exit.then J Q) l w)(h2: ∀a w,J a w→J' a w):W F P N ds c (Exit.then J' Q) l w:=
 fun a ha=>Go.wpIn_mono (h a ha) fun e a w hq=>by cases e<;>first|exact h2 _ _ hq|exact hq
theorem rm{J:Act→World→Prop}{a:Act}{w:World}(h:J a w):Exit.then J Q .normal a w:=h
theorem EP.sub{g:G}{b p:Nat}{ys:List Value}(h:EP g b p ys)(i:Nat){v:Value}(hv:ys[i]? =some v):EP g b (p+i*1) [v]:=by
 refine⟨h.1,fun j y hy=>?_⟩;cases j with
 |zero=>
  simp only[List.getElem?_cons_zero,Option.some.injEq]at hy;subst hy;rw[Nat.mul_one,Nat.add_zero];exact h.2 i v hv
 |succ j=>simp at hy
theorem Je{w:World}(h: ∀a,Fr N ds l a→Q .normal a w): ∀a,Fr N ds l a→wpListIn F 0 P ops Q [] a w:=h
def P9{α:Type}[El α](g0:G)(L:Value→List Value→List cS)(n:Nat)(xs:List α):Fact:=
 ⟨fun v g=> ∃a c cells,v= .slice a n c∧St g0 g (L v cells)∧cG g cells xs,fun _ _ _ hf ⟨a,c,cells,e,h1,h2⟩=>⟨a,c,cells,e,h1.call hf,h2.mono hf.le⟩⟩
theorem cY{w:World}{t:Nat}{u:Value}(v:Value)(hl:lk l t=some u)(e:u=v)(h:WL F P N ds ops Q os (rep t v l) w):WL F P N ds ops Q os l w:=
 fun a ha=>h a (ha.rep hl e)
end Go.K
namespace Go.K
open Go Go.RowKit
variable {F:Fence} {P:Program} {N:Nat} {ds:List Deferred} {l l':Env} {a:Act} {w:World} {Q:Exit→Act→World→Prop} {ops:Array Oper} {os:List Oper} {o:Oper}
variable {g0 g g':G} {L:List cS} {K:Value→World→Prop}
theorem zP{c1 c2 us:List Value}{off:Nat}(h:off+us.length≤c1.length):lh (c1++c2) off us=lh c1 off us++c2:=by unfold lh;rw[List.take_append_of_le_length (by omega),List.drop_append_of_le_length (by omega)];simp[List.append_assoc]
theorem wW{c1 c2 us:List Value}{off:Nat}:lh (c1++c2) (c1.length+off) us=c1++lh c2 off us:=by
 unfold lh;rw[List.take_append,List.take_of_length_le (by omega),Nat.add_sub_cancel_left,List.drop_append,List.drop_of_length_le (by omega),List.nil_append,
  show c1.length+off+us.length-c1.length=off+us.length from by omega]
 simp[List.append_assoc]
theorem cG.tr{α:Type}[El α]{us:List Value}{off:Nat}{x':α}(P_:off+us.length≤El.k α): ∀{xs:List α} {cells:List Value},cG g cells xs→ ∀(i:Nat) (x:α),xs[i]? =some x→(∀ys,El.rc g ys x→El.rc g (lh ys off us) x')→
  cG g (lh cells (i*El.k α+off) us) (xs.set i x')
 |[],_,_,i,x,hi,_=>by simp at hi
 |y::xs,_,⟨c1,c2,e,h1,h2⟩,0,x,hi,hf=>by simp only[List.getElem?_cons_zero,Option.some.injEq]at hi;subst hi;subst e;rw[Nat.zero_mul,Nat.zero_add,zP (by rw[El.len h1];exact P_)];exact⟨_,c2,rfl,hf c1 h1,h2⟩
 |y::xs,_,⟨c1,c2,e,h1,h2⟩,i+1,x,hi,hf=>by subst e;have:=cG.tr P_ h2 i x (by simpa using hi) hf;rw[show(i+1)*El.k α+off=c1.length+(i*El.k α+off)from by rw[El.len h1,Nat.add_mul];omega,wW];exact⟨c1,_,rfl,h1,this⟩
theorem zQ{α:Type}[El α](R:G→G→Value→Prop)(R':G→G→Value→Prop){f:FuncId}(hc:ag P f)(hF: ∀f,F.fn f)(uL:F.depth=none){x:Operand}{args:Array Operand}{ts:Array TypeId}{first captured:Array Value}{vs aa:List Value}
  (ho:o.op= .call {callee:=.value x,args,argTypes:=ts}) (hx:ev l x=some (.func (.func f) first captured)) (ha:sY l args.toList=some vs) (has:first.toList++vs++captured.toList=aa)
  (hs:St g0 g L) (i:Nat) {e:TypeId} {v:Value} {n:Nat} {cells:List Value} {xs:List α} (hi:L[i]? =some (.row e (El.k α) v n cells)) (hr:cG g cells xs)
  (h: ∀gf,g.le gf→gf.w=g.w→Rs gf v xs→CallsIn F 0 P f aa.toArray gf.w (cF gf (R gf)))
  (hR: ∀gf g2 g3 v,gf.w=g.w→a_ gf g2→g3.w=g2.w→a_ g g3→(∀b,g3.im b→g2.im b)→R gf g2 v→R' g g3 v)
  (k: ∀g' v,a_ g g'→R' g g' v→K v g'.w):cD F P N ds o l g.w Q K:=by
 have dT:=hs.own i _ hi;have bC: ∀b,qi v=some b→b<g.w.heap.size:=fun b hb=>(dT.1.lt b hb).2;have rM:Rs (g.fz (qi v) bC) v xs:=dT.1.rs hr (G.qt g _ _) fun b hb=>⟨.inr hb,rfl⟩
 refine n5 hc hF uL ho hx ha has (CallsIn.mono (h (g.fz (qi v) bC) (G.qt g _ bC) rfl rM) ?_);rintro _ _ ⟨g2,u,rfl,hf,rfl,Xi⟩;refine⟨u,rfl,?_⟩;have eW:a_ g (⟨g2.w,fun b=>g2.im b∧qi v≠some b,fun b h=>g2.lt b h.1⟩:G):=⟨hf.below,fun b hb=>by
  have h1:=hf.im b hb;constructor
  ·intro h;rcases h1.1 h.1 with h'|h'
   ·exact h'
   exact absurd h' h.2
  intro h;exact⟨h1.2 (.inl h),fun h'=>dT.2 b h' h⟩⟩
 exact k ⟨g2.w,fun b=>g2.im b∧qi v≠some b,fun b h=>g2.lt b h.1⟩ u eW (hR (g.fz (qi v) bC) g2 _ u rfl hf rfl eW (fun b h=>h.1) Xi)
end Go.K
namespace Go.K
open Go Go.RowKit Go.ChangeShapes Go.WideShapes Go.Deep
def vH(W:World):G:=⟨W,fun b=>b<W.heap.size,fun _ h=>h⟩
variable {P:Program}
def J3(P:Program)(t:TypeId){α:Type}[El α](good:α→Prop):Prop:=
 ∀(H:Type) (enc:TypeId×Value→H) (W:World) (fuel:Nat) (cs:List Value) (x:DataW H×List MemPlace),DataW.trod enc P W 0 (fun _=>true) true fuel t cs=some x→ ∃y:α,El.rc (vH W) cs y∧good y
theorem r3{W:World}{a:Addr}{v:Value}(h:W.cell? a=some v):a.spot=none∧a.block<W.heap.size:=by
 unfold World.cell? at h;split at h
 ·rename_i c t f hh;split at h
  ·cases h
  rename_i hs;refine⟨by simpa using hs,(Array.getElem?_eq_some_iff.1 hh).1⟩
 cases h
theorem Bw{α:Type}[El α]{good:α→Prop}(W:World)(a:Addr)(k n:Nat)(hk:k=El.k α)(h: ∀i,i<n→ ∃cs',cs'.length=k∧(∀j,j<k→W.cell? ((a.add (i*k)).add j)=cs'[j]?)∧ ∃y:α,El.rc (vH W) cs' y∧good y):
  ∃(cells:List Value) (xs:List α),xs.length=n∧cG (vH W) cells xs∧(∀y∈xs,good y)∧ ∀(j:Nat) y,cells[j]? =some y→W.cell? (a.add j)=some y:=by
 induction n with
 |zero=>exact⟨[],[],rfl,rfl,by simp,by simp⟩
 |succ n ih=>
  obtain⟨cells,xs,h1,h2,h3,h4⟩:=ih fun i hi=>h i (by omega);obtain⟨cs',hl,hc,y,hy,hg⟩:=h n (by omega);have fr:cells.length=n*k:=by rw[h2.len,h1,hk]
  refine⟨cells++cs',xs++[y],by simp[h1],cG.app (ys:=[y]) (show cG _ cs' [y]from⟨cs',[],by rw[List.append_nil],hy,rfl⟩) h2,?_,fun j u hu=>?_⟩
  ·intro z hz;rcases List.mem_append.1 hz with h|h
   ·exact h3 z h
   rw[List.mem_singleton]at h;exact h▸hg
  by_cases hj:j<cells.length
  ·rw[List.getElem?_append_left hj]at hu;exact h4 j u hu
  rw[List.getElem?_append_right (by omega)]at hu;have bC:=(List.getElem?_eq_some_iff.1 hu).1;have:=hc (j-cells.length) (by omega);rw[hu]at this;rw[←this,add_add,fr];congr 2;omega
theorem F3{α:Type}[El α]{good:α→Prop}{t e:TypeId}(ht:P.underlying t=some (.slice e))(hk:P.cellsOf e=El.k α)(he:J3 P e good)
  {H:Type} {enc:TypeId×Value→H} {W:World} {fuel:Nat} {v:Value} {x:DataW H×List MemPlace} (h:DataW.trod enc P W 0 (fun _=>true) true fuel t [v]=some x):
  ∃xs:List α,Rs (vH W) v xs∧ ∀y∈xs,good y:=by
 rcases open_slice ht h with⟨h0,_⟩|⟨a,len,cap,m,n,D,Pl,nY,_,hl,hm,Xj,_,hi⟩
 ·obtain rfl:=(List.cons.inj h0).1;exact⟨[],Rs.nil _,by simp⟩
 obtain rfl:=(List.cons.inj nY).1;simp only[if_true]at Xj;have Ty:=Bw (good:=good) W a (P.cellsOf e) len hk fun i Zn=>by obtain⟨cs',hc,Xk⟩:=hi i (by omega);obtain⟨_,h1,h2⟩:=World.cells?_some hc;obtain⟨y,hy,hg⟩:=he H enc W _ cs' _ Xk;exact⟨cs',h1,h2,y,hy,hg⟩
 obtain⟨cells,xs,h1,h2,h3,h4⟩:=Ty;refine⟨xs,⟨some a,len,cap,rfl,h1.symm,⟨hl,hm⟩,?_⟩,h3⟩;by_cases h0:len=0
 ·exact .inl h0
 right;have nA:=El.pos (α:=α);have fr:cells.length=len*El.k α:=by rw[h2.len,h1]
 have bC:0<cells.length:=by rw[fr];exact Nat.mul_pos (by omega) nA
 have DF:=h4 0 cells[0] (List.getElem?_eq_getElem bC);have Xl:a.add 0=a:=by simp[Addr.add]
 rw[Xl]at DF;obtain⟨hs,hb⟩:=r3 DF;obtain⟨b,o,s⟩:=a;simp only at hs;subst hs;refine⟨b,o,cells,rfl,hb,h2,fun j y hy=>?_⟩;have:=h4 j y hy;rwa [Addr.add_lit]at this
theorem wf_i64{n:Int}(h:(Lit.int .i64 n).wf=true): -9223372036854775808≤n∧n≤9223372036854775807:=by simp only[Lit.wf,Bool.and_eq_true,decide_eq_true_eq]at h;exact h
theorem Br{t e:TypeId}{n:Nat}(ht:P.underlying t=some (.array n e))(he:P.underlying e=some (.int .i64))(hc:P.cellsOf e=1)(Xm:P.cellsOf t=n)
  {H:Type} {enc:TypeId×Value→H} {W:World} {fuel:Nat} {cs:List Value} {x:DataW H×List MemPlace} (h:DataW.trod enc P W 0 (fun _=>true) true fuel t cs=some x):
  cs.length=n∧ ∀i,i<n→ ∃m,cs[i]? =some (.int .i64 m)∧ -9223372036854775808≤m∧m≤9223372036854775807:=by
 obtain⟨xs,m,_,_,hl,lX,hi⟩:=DataW.trod_array ht h;rw[Xm]at hl;refine⟨hl,fun i AM=>?_⟩;have h1:=hi i AM;rw[hc,Nat.mul_one,List.getElem?_eq_getElem (by omega)]at h1;obtain⟨k,hk,_,hw⟩:=DataW.trod_int he h1;refine⟨k,?_,wf_i64 hw⟩;have h2:((cs.drop i).take 1)[0]? =some (.int .i64 k):=by rw[hk];rfl
 rw[List.getElem?_take_of_lt (by omega),List.getElem?_drop]at h2;simpa using h2
end Go.K
namespace Go.K
open Go Go.RowKit Go.ChangeShapes Go.WideShapes
variable {H:Type} {enc:TypeId×Value→H} {P:Program}
theorem pw(hl:laidOutB P=true){W W':World}(hb:Below W.heap.size W W'){sp:Nat→Bool}: ∀{ts:List TypeId} {vs:List Value} {ds:List (DataW H)} {ps:List MemPlace},
  (ts.all fun t=>P.readableRec t&&decide (t<P.types.size))=true→DataW.TrodAll enc P W 0 (fun _=>true) true ts vs ds ps→(∀p∈ps,p.block<W.heap.size)→(∀p∈ps,sp p.block=true)→DataW.TrodAll enc P W' 0 sp true ts vs ds ps
 |[],vs,ds,ps,_,h,_,_=>by obtain⟨rfl,rfl,rfl⟩:=trodAll_nil h;exact trodAll_mk0
 |t::ts,[],_,_,_,h,_,_=>by cases h
 |t::ts,v::vs,[],_,_,h,_,_=>by cases h
 |t::ts,v::vs,d::ds,ps,hr,h,bC,rp=>by
  obtain⟨p,q,h1,h2,rfl⟩:=h;simp only[List.all_cons,Bool.and_eq_true,decide_eq_true_eq]at hr;exact⟨p,q,WideElems.Trod_stays hl hr.1.1 hr.1.2 h1 (fun x hx=>hb.same (bC x (by simp[hx]))) (fun x hx=>rp x (by simp[hx])),
   pw hl hb (by simpa using hr.2) h2 (fun x hx=>bC x (by simp[hx])) (fun x hx=>rp x (by simp[hx])),rfl⟩
theorem F4{f:Func}{s:ChangeSpec}{W W':World}{args:Array Value}{ds:List (DataW H)}{before:List MemPlace}{tb:TypeId}(hl:laidOutB P=true)
  (hr:(f.params.toList.all fun t=>P.readableRec t&&decide (t<P.types.size))=true) (hv:s.vars=[]) (hs:s.fn H ds={results:=[.lit (.bool true)],args:=ds}) (Tq:f.resultTypes=#[tb]) (dq:P.underlying tb=some .bool)
  (hW:DataW.Whole enc P f.params.toList s.vars false W args.toList ds [] before) (hb:Below W.heap.size W W'):s.post enc P f false true false false W args (.bool true) W':=by
 have bC: ∀p∈before,p.block<W.heap.size:=fun p hp=>hW.lt p hp;have Xn:=hW;obtain⟨p,q,hA,hV,rfl,hz,hn⟩:=hW;rw[hv]at hV;obtain⟨_,rfl⟩:=trodVars_none hV;rw[List.append_nil]at*;have pk: ∀sp:Nat→Bool,(∀x∈p,sp x.block=true)→DataW.TrodAll enc P W' 0 sp true f.params.toList args.toList ds p:=fun sp rp=>pw hl hb hr hA bC rp;have Gd: ∀(b:Nat) (sp:Nat→Bool) (hd:Bool),DataW.TrodAll enc P W' b sp hd f.resultTypes.toList ((Value.bool true).resultList f.resultTypes.size) [.lit (.bool true)] []:=fun b sp hd=>by rw[Tq];exact trodAll_mk1 (shut_bool dq true)
 have H0:s.fn H (ds++[])={results:=[.lit (.bool true)],args:=ds}:=by rw[List.append_nil];exact hs
 have P': ∀sp:Nat→Bool,DataW.TrodVars enc P W' sp s.vars (s.fn H (ds++[])).vars []:=fun sp=>by rw[hv,H0];rfl
 have hold: ∀x∈p,(fun b=>decide (b<W.heap.size)) x.block=true:=fun x hx=>by simpa using bC x hx
 exact⟨ds,[],p,[],p,[],Xn,by rw[H0];exact Gd _ _ _,by rw[H0];exact pk _ hold,P' _,World.keptBut_mono (fun x hx=>⟨hx,.inr (by simpa using hx)⟩) (hb.frame (· ∈p)),fun h=>(by cases h)⟩
end Go.K
namespace Go.K
open Go Go.RowKit
variable {F:Fence} {P:Program} {N:Nat} {ds:List Deferred} {l l':Env} {a:Act} {w:World} {Q:Exit→Act→World→Prop} {ops:Array Oper} {os:List Oper} {o:Oper}
variable {g0 g:G} {L:List cS} {K:Value→World→Prop}
theorem iR{tb:Tb}(dq:tb.ok P){t n e:Nat}{ti ei:TI}{parts:Array (Nat×Operand)}{vs:List (Nat×Value)}{cells:List Value}(ho:o.op= .build t parts)
  (hp:sY l (parts.toList.map (·.2))=some (vs.map (·.2))) (o9:parts.toList.map (·.1)=vs.map (·.1)) (hi:tl tb t=some ti) (hd:ti.desc= .arr n e) (hj:tl tb e=some ei)
  (nM:Instr.fill (fun i=>some (i*ei.size,ei.size)) ti.zero.cells vs=some cells.toArray) (k:K (.agg cells.toArray) w):cD F P N ds o l w Q K:=by
 obtain⟨⟨dd,hu,he⟩,inf,e1,e2,e3,e4⟩:=dq.at hi;rw[hd]at he;obtain rfl:=KD.A8 he;obtain⟨_,TB,f1,f2,_⟩:=dq.at hj;refine bO (fun c=>⟨by rw[ho];simp,by rw[ho];simp⟩) (fun a ha=>?_) k;have DP:List.map (fun x:Nat×Operand=>(x.fst,a.eval x.snd)) parts.toList=vs:=by
  have h2:=iH ha hp;rw[List.map_map]at h2;have h3:parts.toList.map (fun p=>(p.1,a.eval p.2))=(parts.toList.map (·.1)).zip (parts.toList.map (fun p=>a.eval p.2)):=by rw[List.zip_map']
  have h4:vs=(vs.map (·.1)).zip (vs.map (·.2)):=by rw[List.zip_map'];simp
  rw[h4,←o9,←h2];exact h3
 have hz:(zeroValue t).run P w= .ok ti.zero w:=by simp[zeroValue,typeInfo,e1,e4]
 simp only[execOp,ho,Instr.build,Sem.run_bind,hz,Result.andThen_ok,run_underlying hu,sizeOf,typeInfo,run_program,f1,Sem.run_pure,f2,Array.toList_map,DP,nM]
theorem vE{tb:Tb}(dq:tb.ok P){t t':Nat}{i:TI}{x y:Operand}{neg p q:Bool}(ho:o.op= .binOp (if neg then .neq else .eql) t x y t')(hx:ev l x=some (.bool p))(hy:ev l y=some (.bool q))
  (hi:tl tb t=some i) (hd:i.desc= .bool) (k:K (.bool (neg !=(p==q))) w):cD F P N ds o l w Q K:=by
 obtain⟨⟨dd,hu,he⟩,_⟩:=dq.at hi;rw[hd]at he;have Rt:dd= .bool:=by cases dd<;>simp only[KD.of,reduceCtorEq]at he;rfl
 subst Rt;refine bO (fun c=>⟨by rw[ho];simp,by rw[ho];simp⟩) (fun a ha=>?_) k;have hg: ∀op,(eqGuard op t x y (.bool p) (.bool q)).run P w= .ok () w:=fun op=>by unfold eqGuard;split<;>rfl
 have hq: ∀d,(Op.equalIn (d+1) t (.bool p) (.bool q)).run P w= .ok (p==q) w:=fun d=>by simp[Op.equalIn,run_underlying hu]
 have heq:(Op.equal t (.bool p) (.bool q)).run P w= .ok (p==q) w:=hq 9999;cases neg<;>simp[execOp,ho,ha.ev hx,ha.ev hy,hg,binOp,heq]
end Go.K
namespace Go.K
open Go Go.RowKit
variable {F:Fence} {P:Program} {N:Nat} {ds:List Deferred} {l l':Env} {a:Act} {w:World} {Q:Exit→Act→World→Prop} {ops:Array Oper} {os:List Oper} {o:Oper}
variable {g0 g:G} {L:List cS} {K:Value→World→Prop} {R:Ending→World→Prop}
theorem oS{f:FuncId}(hc:ag P f)(hF: ∀f,F.fn f)(uL:F.depth=none){x:Operand}{args:Array Operand}{ts:Array TypeId}{first captured:Array Value}{vs aa:List Value}
  (ho:o.op= .call {callee:=.value x,args,argTypes:=ts}) (hx:ev l x=some (.func (.func f) first captured)) (ha:sY l args.toList=some vs) (has:first.toList++vs++captured.toList=aa)
  (h:CallsIn F 0 P f aa.toArray w fun e w'=>(∃v,e= .returned v∧K v w')∨ ∃ch,e= .panicked ch∧ ∀a,Fr N ds l a→Q (.panic ch) a w'):cD F P N ds o l w Q K:=by
 intro a Ep;have TC:first++vs.toArray++captured=aa.toArray:=by rw[←has];apply Array.ext';simp
 rw[←TC]at h;unfold Oper.wpIn;refine⟨fun f _=>hF f,?_⟩;have pk:args.map a.eval=vs.toArray:=by apply Array.ext';simpa using iH Ep ha
 rw[Oper.semAt_eq _ _ _ (fun c e=>by rw[ho]at e;cases e)];have iU:(execOp a.eval o).run P w= .ok (.enter f (first++vs.toArray++captured)) w:=by simp only[execOp,ho,Sem.run_bind,resolve,Ep.ev hx,Deferred.ofValue,Sem.run_pure,Result.andThen_ok,invoke,pk];exact h_ hc _
 rw[iU];refine⟨fun h=>(by rw[uL]at h;cases h),?_⟩;refine CallsIn.mono h fun e w' he=>?_;rcases he with⟨v,he,hk⟩|⟨ch,he,hq⟩
 ·subst he;exact⟨v,rfl,hk⟩
 subst he;exact hq a Ep
def ek(g:G)(R:G→Value→Prop):Ending→World→Prop:=fun e w'=> ∃g' v,g'.w=w'∧e= .returned v∧g.le g'∧R g' v
def fg(g:G)(ch:List PanicEntry)(R:G→Prop):Ending→World→Prop:=fun e w'=> ∃g',g'.w=w'∧e= .panicked ch∧g.le g'∧R g'
theorem du{R:G→Value→Prop}{f:FuncId}(hc:ag P f)(hF: ∀f,F.fn f)(uL:F.depth=none){x:Operand}{args:Array Operand}{ts:Array TypeId}{first captured:Array Value}{vs aa:List Value}
  (ho:o.op= .call {callee:=.value x,args,argTypes:=ts}) (hx:ev l x=some (.func (.func f) first captured)) (ha:sY l args.toList=some vs) (has:first.toList++vs++captured.toList=aa)
  (h:CallsIn F 0 P f aa.toArray g.w (ek g R)) (k: ∀g' v,g.le g'→R g' v→K v g'.w):cD F P N ds o l g.w Q K:=
 n5 hc hF uL ho hx ha has (CallsIn.mono h fun _ _ ⟨g',v,hw,he,hf,hr⟩=>⟨v,he,hw▸k g' v hf hr⟩)
theorem DQ{x:Operand}{t:TypeId}{v:Value}(ho:o.op= .panic x)(hx:ev l x=some (.iface t v))(k: ∀a,Fr N ds l a→Q (.panic [{v:=.iface t v,recovered:=false}]) a w):cD F P N ds o l w Q K:=by
 intro a ha;unfold Oper.wpIn;refine⟨fun f hf=>?_,?_⟩
 ·unfold Oper.about at hf;simp only[ho]at hf;cases hf
 rw[Oper.semAt_eq _ _ _ (fun c e=>by rw[ho]at e;cases e)];have:(execOp a.eval o).run P w= .halt (.panic (.iface t v)) w:=by simp only[execOp,ho,ha.ev hx,Sem.run_bind,run_panic_iface];rfl
 rw[this];exact k a ha
theorem gB{J:Act→World→Prop}{ch:List PanicEntry}(h: ∀a,Fr N ds l a→Q (.panic ch) a w): ∀a,Fr N ds l a→Exit.then J Q (.panic ch) a w:=h
theorem gC{id:Nat}{ch:List PanicEntry}(h: ∀a,Fr N ds l a→Q (.panic ch) a w): ∀a,Fr N ds l a→Exit.inBlock id Q (.panic ch) a w:=h
theorem gD{ch:List PanicEntry}(h: ∀a,Fr N ds l a→Q (.panic ch) a w): ∀a,Fr N ds l a→Exit.noGoto Q (.panic ch) a w:=h
theorem dv{fn:Func}{ch:List PanicEntry}(hR:R (.panicked ch) w)(a:Act)(ha:Fr N [] l a):bodyPost P fn R (.panic ch) a w:=⟨ha.defers,hR⟩
theorem ek.intro{R:G→Value→Prop}{g':G}{v:Value}(hle:g.le g')(h:R g' v):ek g R (.returned v) g'.w:=⟨g',v,rfl,rfl,hle,h⟩
theorem fg.intro{R:G→Prop}{ch:List PanicEntry}{g':G}(hle:g.le g')(h:R g'):fg g ch R (.panicked ch) g'.w:=⟨g',rfl,rfl,hle,h⟩
theorem St.front(hs:St g0 g L){i:Nat}{e:cS}(hi:L[i]? =some e):St g0 g (e::L.eraseIdx i):=by
 have bC:=(List.getElem?_eq_some_iff.1 hi).1;have idx: ∀(j:Nat) x,(e::L.eraseIdx i)[j]? =some x→ ∃j',L[j']? =some x∧j'=(if j=0 then i else if j-1<i then j-1 else j):=by
  intro j x hj;cases j with
  |zero=>simp only[List.getElem?_cons_zero,Option.some.injEq]at hj;subst hj;exact⟨i,hi,by simp⟩
  |succ j=>
   rw[List.getElem?_cons_succ,List.getElem?_eraseIdx]at hj;split at hj
   ·rename_i h;exact⟨j,hj,by simp[h]⟩
   rename_i h;exact⟨j+1,hj,by simp[h]⟩
 refine⟨hs.below,hs.im,fun j x hj=>?_,fun j k x y Ci hj hk b wS tD=>?_⟩
 ·obtain⟨j',vu,_⟩:=idx j x hj;exact hs.own j' x vu
 obtain⟨j',vu,e1⟩:=idx j x hj;obtain⟨k',Hd,e2⟩:=idx k y hk;refine hs.sep j' k' x y ?_ vu Hd b wS tD;rw[e1,e2]
 repeat' split
 all_goals omega
end Go.K
namespace Go.K
open Go Go.RowKit
variable {F:Fence} {P:Program} {N:Nat} {ds:List Deferred} {l l':Env} {a:Act} {w:World} {Q:Exit→Act→World→Prop} {ops:Array Oper} {os:List Oper} {o:Oper}
variable {g0 g:G} {L:List cS} {K:Value→World→Prop} {R:Ending→World→Prop}
def bc(k:IntKind)(a b:Int):Int:=k.wrap (BitVec.ofInt k.bits a&&&BitVec.ofInt k.bits b).toNat
def bK(k:IntKind)(a b:Int):Int:=k.wrap (BitVec.ofInt k.bits a|||BitVec.ofInt k.bits b).toNat
def bd(k:IntKind)(a b:Int):Int:=k.wrap (BitVec.ofInt k.bits a^^^BitVec.ofInt k.bits b).toNat
def bg(k:IntKind)(a b:Int):Int:=k.wrap (BitVec.ofInt k.bits a&&& ~~~BitVec.ofInt k.bits b).toNat
def bh(k:IntKind)(n:Int):Int:=bd k (if k.signed then -1 else k.max) n
def cq(k:IntKind)(a:Int)(n:Nat):Int:=k.wrap (a*2^min n k.bits)
def ck(k:IntKind)(a:Int)(n:Nat):Int:=a.fdiv (2^min n k.bits)
def ID(op:BinOp)(x y:Value):Option Value:=
 match x,y with
 | .int k a,.int k' b=>
  if k=k' then
   match op with
   | .and=>some (.int k (bc k a b))
   | .or=>some (.int k (bK k a b))
   | .xor=>some (.int k (bd k a b))
   | .andNot=>some (.int k (bg k a b))
   |_=>none
  else none
 |_,_=>none
def ye(op:BinOp)(x y:Value):Option Value:=
 match x,y with
 | .int k a,.int _ (.ofNat n)=>
  match op with
  | .shl=>some (.int k (cq k a n))
  | .shr=>some (.int k (ck k a n))
  |_=>none
 |_,_=>none
def Ka(d:KD)(x:Value):Option Value:=
 match d,x with
 | .int k,.int _ n=>some (.int k (k.wrap n))
 |_,_=>none
def LJ(tb:Tb)(l:Env):Op→Option Value
 | .binOp op _ x y _=>
  match op with
  | .shl| .shr=>
   match ev l x,ev l y with
   |some a,some b=>ye op a b
   |_,_=>none
  |_=>
   match ev l x,ev l y with
   |some a,some b=>ID op a b
   |_,_=>none
 | .unOp .xor _ x=>
  match ev l x with
  |some (.int k n)=>some (.int k (bh k n))
  |_=>none
 | .convert s d x=>
  match tl tb s,tl tb d,ev l x with
  |some _,some i,some v=>Ka i.desc v
  |_,_,_=>none
 |_=>none
theorem KD.of_int{d:TypeDesc}{k:IntKind}(h:KD.of d= .int k):d= .int k:=by cases d<;>simp only[KD.of,reduceCtorEq,KD.int.injEq]at h;rw[h]
theorem Ge{op:BinOp}{t:TypeId}{x y v:Value}(xo yo:Operand)(h:ID op x y=some v):(do eqGuard op t xo yo x y;binOp op t x y:Sem Value).run P w= .ok v w:=by
 unfold ID at h;split at h
 ·rename_i k a k' b;split at h
  ·rename_i hk;subst hk;have hb:(binOp op t (.int k a) (.int k b)).run P w= .ok v w:=by split at h<;>simp only[Option.some.injEq,reduceCtorEq]at h<;>subst h<;>simp[binOp,Op.intBits,bc,bK,bd,bg]
   simp only[Sem.run_bind,gF,Result.andThen_ok];exact hb
  cases h
 cases h
theorem Bx{op:BinOp}{t:TypeId}{x y v:Value}(xo yo:Operand)(h:ye op x y=some v):(do eqGuard op t xo yo x y;binOp op t x y:Sem Value).run P w= .ok v w:=by
 unfold ye at h;split at h
 ·rename_i k a k' n;have hn: ¬((Int.ofNat n)<0):=by have:(Int.ofNat n)=(n:Int):=rfl;omega
  have hb:(binOp op t (.int k a) (.int k' (.ofNat n))).run P w= .ok v w:=by split at h<;>simp only[Option.some.injEq,reduceCtorEq]at h<;>subst h<;>unfold binOp<;>simp only<;>unfold Op.shift<;>rw[if_neg hn]<;>rfl
  simp only[Sem.run_bind,gF,Result.andThen_ok];exact hb
 cases h
theorem DR(tb:Tb)(dq:tb.ok P){v:Value}{K:Value→World→Prop}(h:LJ tb l o.op=some v)(k:K v w):cD F P N ds o l w Q K:=by
 obtain⟨dst,op,type,pos,after,guard⟩:=o;simp only at h;unfold LJ at h;split at h
 ·rename_i op t x y ty;have bits: ∀{a b:Value},ev l x=some a→ev l y=some b→ID op a b=some v→cD F P N ds ⟨dst,.binOp op t x y ty,type,pos,after,guard⟩ l w Q K:=fun hx hy h=>by
   refine bO (by simp) (fun a ha=>?_) k;have:=Ge (P:=P) (w:=w) (t:=t) x y h;simp only[Sem.run_bind]at this;simp only[execOp,ha.ev hx,ha.ev hy,Sem.run_bind];generalize Sem.run P (eqGuard op t x y _ _) w=r at*;cases r with
   |ok u w1=>
    simp only[Result.andThen_ok]at this⊢;rw[this];rfl
   |halt u w1=>cases this
  have shift: ∀{a b:Value},ev l x=some a→ev l y=some b→ye op a b=some v→cD F P N ds ⟨dst,.binOp op t x y ty,type,pos,after,guard⟩ l w Q K:=fun hx hy h=>by
   refine bO (by simp) (fun a ha=>?_) k;have:=Bx (P:=P) (w:=w) (t:=t) x y h;simp only[Sem.run_bind]at this;simp only[execOp,ha.ev hx,ha.ev hy,Sem.run_bind];generalize Sem.run P (eqGuard op t x y _ _) w=r at*;cases r with
   |ok u w1=>
    simp only[Result.andThen_ok]at this⊢;rw[this];rfl
   |halt u w1=>cases this
  split at h<;>
   (split at h
    ·rename_i hx hy
     first|exact shift hx hy h|exact bits hx hy h
    cases h)
 ·rename_i t x;split at h
  ·rename_i k' n hx;simp only[Option.some.injEq]at h;subst h;refine bO (by simp) (fun a ha=>?_) k;simp[execOp,ha.ev hx,Op.unary,Op.intBits,bh,bd]
  cases h
 ·rename_i s d x;split at h
  ·rename_i i1 i2 v' h1 h2 hx;unfold Ka at h;split at h
   ·rename_i kk k' n hd;simp only[Option.some.injEq]at h;subst h;obtain⟨⟨d1,Ho,_⟩,_⟩:=dq.at h1;obtain⟨⟨d2,Hp,J7⟩,_⟩:=dq.at h2;rw[hd]at J7;obtain rfl:=KD.of_int J7;refine bO (by simp) (fun a ha=>?_) k;simp[execOp,ha.ev hx,convert,run_underlying Ho,run_underlying Hp,Conv.intToInt]
   cases h
  cases h
 cases h
def bs(l:List UInt8):ByteArray:=⟨l.toArray⟩
def ez(l:List UInt8):List Value:=l.map fun b=> .int .u8 (b.toNat:Int)
theorem fC(l:List UInt8):(bs l).size=l.length:=by simp[bs,ByteArray.size]
theorem Qa(s:ByteArray):s=bs s.data.toList:=by simp[bs]
theorem DS(x y:List UInt8):bs x++bs y=bs (x++y):=by apply ByteArray.ext;simp[bs]
theorem LK{x y:List UInt8}(h:bs x=bs y):x=y:=by have:=congrArg ByteArray.data h;simpa [bs]using this
theorem cB(x:List UInt8):(bs x).toList=x:=ByteArray.toList_mk x
instance:El UInt8 where
 k:=1
 pos:=by omega
 rc _ cs n:=cs=[.int .u8 (n.toNat:Int)]
 len h:=by rw[h];rfl
 mono _ h:=h
 one h:=by rw[h];simp[Value.oneCell']
theorem cG.bytes(g:G): ∀l:List UInt8,cG g (ez l) l
 |[]=>rfl
 |b::r=>⟨[.int .u8 (b.toNat:Int)],ez r,rfl,rfl,cG.bytes g r⟩
theorem cG.r5{g:G}: ∀{l:List UInt8} {cs:List Value},cG g cs l→cs=ez l
 |[],_,h=>h
 |b::r,_,⟨c1,c2,e,h1,h2⟩=>by rw[e,show c1=[.int .u8 (b.toNat:Int)]from h1,cG.r5 h2];rfl
structure yf where
 s:List UInt8
instance:El yf where
 k:=1
 pos:=by omega
 rc _ cs n:=cs=[.string (bs n.s)]
 len h:=by rw[h];rfl
 mono _ h:=h
 one h:=by rw[h];simp[Value.oneCell']
theorem ct{t t':TypeId}{x y:Operand}{p q:List UInt8}(ho:o.op= .binOp .add t x y t')(hx:ev l x=some (.string (bs p)))(hy:ev l y=some (.string (bs q)))(hl:p.length+q.length≤9223372036854775807)(kk:K (.string (bs (p++q))) w):cD F P N ds o l w Q K:=by
 refine bO (fun c=>⟨by rw[ho];simp,by rw[ho];simp⟩) (fun a ha=>?_) kk;have h: ¬(((bs p).size+(bs q).size:Nat):Int)>IntKind.i64.max:=by
  rw[fC,fC];have:IntKind.i64.max=9223372036854775807:=by decide
  omega
 have h': ¬(IntKind.i64.max<((bs p).size:Int)+((bs q).size:Int)):=by
  have e:(((bs p).size+(bs q).size:Nat):Int)=((bs p).size:Int)+((bs q).size:Int):=by omega
  rw[←e];exact h
 have h3:((bs p).size:Int)+((bs q).size:Int)≤9223372036854775807:=by rw[fC,fC];omega
 simp[execOp,ho,ha.ev hx,ha.ev hy,kZ,binOp,Op.stringOp,h',h3,DS]
theorem mR{tb:Tb}(dq:tb.ok P){s d e:Nat}{si di ei:TI}{x:Operand}{ad:Option Addr}{n c:Nat}{ns:List Int}(ho:o.op= .convert s d x)(hx:ev l x=some (.slice ad n c))
  (hi:tl tb s=some si) (hd:si.desc= .slice e) (hj:tl tb e=some ei) (he:ei.desc= .int .u8) (hk:tl tb d=some di) (Xo:di.desc= .string)
  (g_:Src w ad n 1 (ns.map (Value.int .u8))) (kk:K (.string (bs (ns.map fun m=>UInt8.ofNat m.toNat))) w):cD F P N ds o l w Q K:=by
 obtain⟨⟨d1,Ho,h1⟩,_⟩:=dq.at hi;rw[hd]at h1;obtain rfl:=KD.of_slice h1;obtain⟨⟨d2,Hp,h2⟩,_⟩:=dq.at hj;rw[he]at h2;obtain rfl:=KD.of_int h2;obtain⟨⟨d3,Xp,h3⟩,_⟩:=dq.at hk;rw[Xo]at h3;obtain rfl:=KD.of_string h3;refine bO (fun c=>⟨by rw[ho];simp,by rw[ho];simp⟩) (fun a ha=>?_) kk;have Qb: ∀(l:List Int) (r:ByteArray),l.foldl (fun r m=>r.push (UInt8.ofNat m.toNat)) r=⟨r.data++(l.map fun m=>UInt8.ofNat m.toNat).toArray⟩:=by
  intro l
  induction l with
  |nil=>intro r;simp
  |cons m l ih=>intro r;rw[List.foldl_cons,ih];simp[ByteArray.push]
 have iU:(convert s d (.slice ad n c)).run P w= .ok (.string (bs (ns.map fun m=>UInt8.ofNat m.toNat))) w:=by
  rw[run_convert_bytes_string w s d e ad n c Ho Hp Xp];obtain⟨hl,hc⟩:=g_;rw[List.length_map,Nat.mul_one]at hl;by_cases h0:n=0
  ·subst h0;obtain rfl:ns=[]:=List.eq_nil_of_length_eq_zero hl;cases ad with
   |none=>simp[Conv.bytesToString,bs];rfl
   |some a=>
    have:=run_bytesToString (P:=P) w a 0 c [] (by simp[loadCells,loadCellsFrom]);rw[this];simp[bs];rfl
  obtain⟨b,p,rfl,K9⟩:=hc.resolve_left h0;have Kb:=run_loadCells_list (P:=P) w ⟨b,p,none⟩ (ns.map (Value.int .u8)) (fun j y hy=>by rw[Addr.add_lit];exact K9 j y hy);rw[List.length_map,hl]at Kb;rw[run_bytesToString w _ n c ns Kb,Qb];have:ByteArray.empty.data=#[]:=rfl;rw[this];simp[bs]
 simp[execOp,ho,ha.ev hx,iU]
structure CI(P:Program)(w:World)(v:Value)(us:List Value):Prop where
 len:(Builtin.lenOf v).run P w= .ok us.length w
 fst: ∀k,k≤us.length→(Builtin.firstCells 1 k v).run P w= .ok (us.take k).toArray w
 one: ∀u∈us,u.oneCell'=true
theorem CI.src{ad:Option Addr}{n c:Nat}{us:List Value}(h:Src w ad n 1 us)(h1: ∀u∈us,u.oneCell'=true):CI P w (.slice ad n c) us:=by
 obtain⟨hl,h⟩:=h;rw[Nat.mul_one]at hl;refine⟨by simp[Builtin.lenOf,hl],fun k hk=>?_,h1⟩;rcases h with h0|⟨b,p,rfl,hc⟩
 ·obtain rfl:us=[]:=List.eq_nil_of_length_eq_zero (by omega);obtain rfl:k=0:=by simpa using hk
  cases ad<;>simp[Builtin.firstCells,loadCells,loadCellsFrom]
 have:=run_firstCells_some (P:=P) w 1 k ⟨b,p,none⟩ n c (us.take k) (by rw[List.length_take];omega) (fun j u hu=>by
  rw[Addr.add_lit];have hj:j<k:=by have:=(List.getElem?_eq_some_iff.1 hu).1;rw[List.length_take]at this;omega
  rw[List.getElem?_take_of_lt hj]at hu;exact hc j u hu)
 exact this
end Go.K
namespace Go.K
open Go Go.RowKit
variable {F:Fence} {P:Program} {N:Nat} {ds:List Deferred} {l l':Env} {a:Act} {w:World} {Q:Exit→Act→World→Prop} {ops:Array Oper} {os:List Oper} {o:Oper}
variable {g0 g:G} {L:List cS} {K:Value→World→Prop} {R:Ending→World→Prop}
theorem cF.below{R:G→Value→Prop}{v:Value}{w':World}(hb:Below g.w.heap.size g.w w')(hR: ∀g':G,g'.w=w'→a_ g g'→R g' v):cF g R (.returned v) w':=by
 let g':G:=⟨w',g.im,fun b h=>Nat.lt_of_lt_of_le (g.lt b h) hb.size⟩
 have hf:a_ g g':=⟨hb,fun _ _=>Iff.rfl⟩
 exact⟨g',v,rfl,hf,rfl,hR g' rfl hf⟩
theorem kE{f:FuncId}{args:Array Value}{R:G→Value→Prop}{v:Value}(h:Calls P f args g.w fun e w'=>e= .returned v∧Below g.w.heap.size g.w w')(hR: ∀g':G,a_ g g'→R g' v):CallsIn Wd 0 P f args g.w (cF g R):=by refine callsIn_wide.2 (h.mono ?_);rintro e w' ⟨rfl,hb⟩;exact cF.below hb fun g' _ hf=>hR g' hf
theorem Rs.part{α:Type}[El α]{b p n c:Nat}{xs:List α}(h:Rs g (.slice (some ⟨b,p,none⟩) n c) xs){a m c':Nat}(hm:0<m)(h1:a+m≤n)(h2:m≤c')(h3:c'≤maxLen):Rs g (.slice (some ⟨b,p+a*El.k α,none⟩) m c') ((xs.drop a).take m):=by
 obtain⟨ad,n',Zo,e,rfl,o7,h⟩:=h;simp only[Value.slice.injEq]at e;obtain⟨rfl,rfl,rfl⟩:=e;rcases h with h|⟨b',p',cells,e,hb,hr,hc⟩
 ·omega
 simp only[Option.some.injEq,Addr.mk.injEq,and_true]at e;obtain⟨rfl,rfl⟩:=e;refine⟨_,m,c',rfl,by rw[List.length_take,List.length_drop];omega,⟨h2,h3⟩,.inr ⟨b,p+a*El.k α,(cells.drop (a*El.k α)).take (m*El.k α),rfl,hb,(hr.drop a).take m,fun j y hy=>?_⟩⟩;have bC:=(List.getElem?_eq_some_iff.1 hy).1;rw[List.length_take]at bC;rw[List.getElem?_take_of_lt (by omega),List.getElem?_drop]at hy;have:=hc _ _ hy;rw[Nat.add_assoc];exact this
end Go.K
namespace Go.K
open Go Go.RowKit
variable {F:Fence} {P:Program} {N:Nat} {ds:List Deferred} {l l':Env} {a:Act} {w:World} {Q:Exit→Act→World→Prop} {ops:Array Oper} {os:List Oper} {o:Oper}
variable {g0 g:G} {L:List cS} {K:Value→World→Prop} {R:Ending→World→Prop}
def P0{α:Type}(P:Program)(jW:FuncId)(eI:Array Value)(fY:α→List Value)(xs:List α)(st:cS)(g:G):Prop:=
 ∀(g1:G),g.le g1→ ∀(yv:Value) (J Jx:List α→cS→G→Prop),
  (∀pre e g,J pre e g→ ∃(g0:G) (L:List cS) (i:Nat),St g0 g L∧L[i]? =some e∧ ∀e' g',St g0 g' (L.set i e')→g.le g'→J pre e' g')→
  (∀pre x rest e g2,xs=pre++x::rest→g1.le g2→J pre e g2→iE P yv (fY x) g2.w fun en w'=> ∃g3 b,g3.w=w'∧en= .returned (.bool b)∧g2.le g3∧(b=true→J (pre++[x]) e g3)∧(b=false→Jx (pre++[x]) e g3))→
  J [] st g1→CallsIn Wd 0 P jW (yv::eI.toList).toArray g1.w fun en w'=> ∃g2 v,g2.w=w'∧en= .returned v∧g1.le g2∧((∃e,J xs e g2)∨ ∃pre e,pre<+:xs∧Jx pre e g2)
theorem F7{α:Type}{jW:FuncId}{eI:Array Value}{fY:α→List Value}{xs:List α}{f:Operand}{ps:Array Tmp}{assign body:Code}
  {st:cS} (hs:St g0 g (st::L)) (hf:ev l f=some (.func (.func jW) #[] eI)) (n4:ag P jW) (rE:P0 P jW eI fY xs st g) (lL:(ps.toList.all fun t=>Nat.blt t N)=true) (Qc: ∀x,(fY x).length=ps.size)
  (I:List α→List cS→G→Prop) (Ix:Code→List α→List cS→G→Prop) (hI: ∀pre L g g',g.le g'→I pre L g→I pre L g') (AL: ∀c pre L g g',g.le g'→Ix c pre L g→Ix c pre L g')
  (h0:I [] L g) (la:α→Env)
  (qQ: ∀x ro w,W {Wd with round:=some ro} P N [] assign (Exit.then (fun a w'=>w'=w∧Fr N [] (la x) a) (fun _ _ _=>False)) (oe ps.toList (fY x) l) w)
  (qR: ∀lp D ro pre x rest e gr Lr,xs=pre++x::rest→g.le gr→St g0 gr (.obj lp (ro .busy):: .obj D fK::e::Lr)→I pre Lr gr→
   W {Wd with round:=some lp} P N [] body (By (fun L' g'=> ∃Lr,L'=e::Lr∧I (pre++[x]) Lr g') (fun c L' g'=> ∃Lr,L'=e::Lr∧Ix c (pre++[x]) Lr g') g0 gr lp D ro) (la x) gr.w)
  (iT: ∀lp D o e Lr ge,g.le ge→St g0 ge (.obj lp o:: .obj D fK::e::Lr)→I xs Lr ge→ ∀a,Fr N (⟨.collected D,#[]⟩::ds) l a→Q .normal a ge.w)
  (zU: ∀c lp D o pre e Lr ge,pre<+:xs→g.le ge→St g0 ge (.obj lp o:: .obj D fK::e::Lr)→Ix c pre Lr ge→W Wd P N (⟨.collected D,#[]⟩::ds) c Q l ge.w):
  W Wd P N ds (.rangeFunc f ps assign body) Q l g.w:=by
 intro a ha;refine wpIn_rangeFunc fun fn _=>?_;let ro:LoopState→Obj:=fun st=>jg fn a.tmps ps assign body g.w.heap.size st none
 have nz:=hs.al fK;have aT:=nz.1.al (ro .ready);have cP:(g.al fK).w.heap.size=g.w.heap.size+1:=by simp[G.al]
 let g2:=(g.al fK).al (ro .ready)
 have tg:g.le g2:=nz.2.trans aT.2;refine⟨g.w.heap.size+1,[⟨.collected g.w.heap.size,#[]⟩],g2.w,⟨.fn (.func jW) eI,#[.func (.yield (g.w.heap.size+1)) #[] #[]]⟩,g2.w,jW,(.func (.yield (g.w.heap.size+1)) #[] #[]::eI.toList).toArray,g2.w,?_,?_,fun _ _=>trivial,?_,fun h=>(by cases h),?_⟩
 ·exact run_enterLoop_outer fn a.tmps ps assign body
 ·simp only[resolve,ha.ev hf,Deferred.ofValue];simp[Act.eval,g2]
 ·have e:#[Value.func (.yield (g.w.heap.size+1)) #[] #[]]++eI=(.func (.yield (g.w.heap.size+1)) #[] #[]::eI.toList).toArray:=by apply Array.ext';simp
  rw[←e];exact h_ n4 _
 --yZ uO qL,with Qd holds CJ yZ rounds
 have Bz:St g0 g2 (.obj (g.w.heap.size+1) (ro .ready):: .obj g.w.heap.size fK::st::L):=by have:=aT.1;rw[cP]at this;exact this
 refine CallsIn.mono (rE g2 tg (.func (.yield (g.w.heap.size+1)) #[] #[])
  (fun pre e g'=>g.le g'∧ ∃Lr,St g0 g' (.obj (g.w.heap.size+1) (ro .ready):: .obj g.w.heap.size fK::e::Lr)∧I pre Lr g')
  (fun pre e g'=>g.le g'∧ ∃c Lr,St g0 g' (.obj (g.w.heap.size+1) (jg fn a.tmps ps assign body g.w.heap.size .done (some c)):: .obj g.w.heap.size fK::e::Lr)∧Ix c pre Lr g')
  (fun pre e ga ⟨h1,Lr,h2,h3⟩=>⟨g0,_,2,h2,rfl,fun e' gb dH fw=>⟨h1.trans fw,Lr,dH,hI _ _ _ _ fw h3⟩⟩) ?_ ⟨tg,L,Bz,hI _ _ _ _ tg h0⟩) ?_
 ·--one round
  rintro pre x rest e0 gp jf Qe ⟨pW,Lr,dH,hi⟩;have mU:gp.w.heap[g.w.heap.size+1]? =some (ro .ready):=(dH.own 0 _ rfl).2.1;refine⟨fn,_,assign,body,run_yield mU (by simpa [jg]using Qc x),?_⟩;refine roundIn_of_wpIn trivial ?_;have Bv:Fr N [] (oe ps.toList (fY x) l) {tmps:=(ps.zip (#[]++(fY x).toArray)).foldl (fun tmps (x:Nat×Value)=>tmps.setIfInBounds x.1 x.2) a.tmps,defers:=[]}:=by
   have h:=yg (N:=N) ps.toList (fY x) l a.tmps lL ⟨rfl,ha.size,ha.get⟩;have e:(ps.zip (#[]++(fY x).toArray)).foldl (fun tmps (x:Nat×Value)=>tmps.setIfInBounds x.1 x.2) a.tmps=(ps.toList.zip (fY x)).foldl (fun tmps (x:Nat×Value)=>tmps.setIfInBounds x.1 x.2) a.tmps:=by rw[←Array.foldl_toList];simp
   rw[e];exact h
  refine Go.wpIn_mono (qQ x (g.w.heap.size+1) gp.w _ Bv) fun e a1 w1 he=>?_;cases e with
  |normal=>
   obtain⟨rfl,yh⟩:=he;have hb:=dH.po (i:=0) (o':=ro .busy) rfl;refine⟨(gp.po (g.w.heap.size+1) (ro .busy)).w,run_beginRound mU rfl,?_⟩;have Gf:St g0 (gp.po (g.w.heap.size+1) (ro .busy)) (.obj (g.w.heap.size+1) (ro .busy):: .obj g.w.heap.size fK::e0::Lr):=hb.1;refine Go.wpIn_mono (qR _ _ ro pre x rest e0 _ Lr jf (pW.trans hb.2) Gf (hI _ _ _ _ hb.2 hi) a1 yh) fun e a2 w2 he=>?_;cases e with
   |normal=>
    obtain⟨L',g',rfl,j7,fw,Qf,rfl,hi'⟩:=he;have j8:g'.w.heap[g.w.heap.size+1]? =some (ro .busy):=(j7.own 0 _ rfl).2.1;have hp:=j7.po (i:=0) (o':=ro .ready) rfl;refine⟨_,_,run_endRound none j8,g'.po (g.w.heap.size+1) (ro .ready),true,rfl,rfl,(hb.2.trans fw).trans hp.2,fun _=>⟨((pW.trans hb.2).trans fw).trans hp.2,Qf,hp.1,hI _ _ _ _ hp.2 hi'⟩,fun h=>(by cases h)⟩
   |ret=>
    obtain⟨L',g',rfl,j7,fw,Qf,rfl,hi'⟩:=he;have j8:g'.w.heap[g.w.heap.size+1]? =some (ro .busy):=(j7.own 0 _ rfl).2.1;have hp:=j7.po (i:=0) (o':=jg fn a.tmps ps assign body g.w.heap.size .done (some .ret)) rfl;refine⟨_,_,run_endRound (some .ret) j8,g'.po (g.w.heap.size+1) (jg fn a.tmps ps assign body g.w.heap.size .done (some .ret)),false,rfl,rfl,(hb.2.trans fw).trans hp.2,fun h=>(by cases h),
     fun _=>⟨((pW.trans hb.2).trans fw).trans hp.2,.ret,Qf,hp.1,AL _ _ _ _ _ hp.2 hi'⟩⟩
   |exit id=>
    obtain⟨L',g',rfl,j7,fw,Qf,rfl,hi'⟩:=he;have j8:g'.w.heap[g.w.heap.size+1]? =some (ro .busy):=(j7.own 0 _ rfl).2.1;have hp:=j7.po (i:=0) (o':=jg fn a.tmps ps assign body g.w.heap.size .done (some (.exit id))) rfl;refine⟨_,_,run_endRound (some (.exit id)) j8,g'.po (g.w.heap.size+1) (jg fn a.tmps ps assign body g.w.heap.size .done (some (.exit id))),false,rfl,rfl,(hb.2.trans fw).trans hp.2,fun h=>(by cases h),
     fun _=>⟨((pW.trans hb.2).trans fw).trans hp.2,.exit id,Qf,hp.1,AL _ _ _ _ _ hp.2 hi'⟩⟩
   |goto t=>exact he.elim
   |panic c=>exact he.elim
   |outgrown=>exact he.elim
  |exit id=>exact he.elim
  |goto t=>exact he.elim
  |ret=>exact he.elim
  |panic c=>exact he.elim
  |outgrown=>exact he.elim
 --yZ iterator has ended
 rintro e w' ⟨ge,v,rfl,rfl,fw,h⟩;have zV:Fr N (⟨.collected g.w.heap.size,#[]⟩::ds) l {a with defers:=[⟨.collected g.w.heap.size,#[]⟩]++a.defers}:=⟨by simp[ha.defers],ha.size,ha.get⟩
 rcases h with⟨e0,hle,Lr,dH,hi⟩|⟨pre,e0,gj,hle,c,Lr,dH,hi⟩
 ·have mU:ge.w.heap[g.w.heap.size+1]? =some (ro .ready):=(dH.own 0 _ rfl).2.1;have hp:=dH.po (i:=0) (o':=jg fn a.tmps ps assign body g.w.heap.size .exhausted none) rfl;exact⟨none,_,run_endLoop mU (by simp),iT _ _ _ e0 Lr (ge.po _ _) (hle.trans hp.2) hp.1 (hI _ _ _ _ hp.2 hi) _ zV⟩
 have mU:ge.w.heap[g.w.heap.size+1]? =some (jg fn a.tmps ps assign body g.w.heap.size .done (some c)):=(dH.own 0 _ rfl).2.1;have hp:=dH.po (i:=0) (o':=jg fn a.tmps ps assign body g.w.heap.size .exhausted (some c)) rfl;exact⟨some c,_,run_endLoop mU (by simp),zU c _ _ _ pre e0 Lr (ge.po _ _) gj (hle.trans hp.2) hp.1 (AL _ _ _ _ _ hp.2 hi) _ zV⟩
end Go.K
namespace Go.K
open Go Go.RowKit
variable {F:Fence} {P:Program} {N:Nat} {ds:List Deferred} {l l':Env} {a:Act} {w:World} {Q:Exit→Act→World→Prop} {ops:Array Oper} {os:List Oper} {o:Oper}
variable {g0 g:G} {L:List cS} {K:Value→World→Prop} {R:Ending→World→Prop}
theorem P2{fn:Func}{t t2 D:Nat}{v v2:Value}(i:Nat)(hr:fn.results=#[.tmp t,.tmp t2])(hs:St g0 g L)(hi:L[i]? =some (.obj D fK))(hl:lk l t=some v)(wo:lk l t2=some v2)
  (hR: ∀g',St g0 g' (L.eraseIdx i)→g.le g'→R (.returned (.tuple #[v,v2])) g'.w) (a:Act) (ha:Fr N [⟨.collected D,#[]⟩] l a):bodyPostM Wd 0 P fn R .ret a g.w:=by
 show LeavesInM Wd 0 P fn a.tmps R a.defers .returning g.w;rw[ha.defers];have hp:=hs.po (o':=.deferred none) hi;refine ya hs hi ⟨_,results_tmp2 hr _ _ _,?_⟩;have h1:a.tmps.getD t undef=v:=by simp[Array.getD_eq_getD_getElem?,ha.get t v hl]
 have h2:a.tmps.getD t2 undef=v2:=by simp[Array.getD_eq_getD_getElem?,ha.get t2 v2 wo]
 rw[h1,h2];refine hR _ ?_ hp.2;have h2:=hp.1.drop i;rwa [show(L.set i (cS.obj D (.deferred none))).eraseIdx i=L.eraseIdx i from by apply List.ext_getElem?;intro j;simp only[List.getElem?_eraseIdx,List.getElem?_set];split<;>(rw[if_neg (by omega)])]at h2
end Go.K
namespace Go.K
open Go Go.RowKit
variable {F:Fence} {P:Program} {N:Nat} {ds:List Deferred} {l l':Env} {a:Act} {w:World} {Q:Exit→Act→World→Prop} {ops:Array Oper} {os:List Oper} {o:Oper}
variable {g0 g:G} {L L':List cS} {K:Value→World→Prop} {R:Ending→World→Prop}
theorem St.perm(hs:St g0 g L)(hp:L.Perm L'):St g0 g L':=by
 let S:cS→cS→Prop:=fun e e'=> ∀b,e.s5=some b→e'.s5≠some b
 have hS: ∀{x y},S x y→S y x:=fun h b hy hx=>h b hx hy;have h1:L.Pairwise S:=by rw[List.pairwise_iff_getElem];intro i j hi hj vv;exact hs.sep i j _ _ (by omega) (List.getElem?_eq_getElem hi) (List.getElem?_eq_getElem hj)
 have h2:L'.Pairwise S:=(hp.pairwise_iff hS).1 h1;rw[List.pairwise_iff_getElem]at h2;refine⟨hs.below,hs.im,fun j e he=>?_,fun j k e e' fB hj hk=>?_⟩
 ·obtain⟨i,hi,e1⟩:=List.mem_iff_getElem.1 (hp.mem_iff.2 (List.mem_of_getElem? he));exact hs.own i e (by rw[←e1];exact List.getElem?_eq_getElem hi)
 obtain⟨zN,rfl⟩:=List.getElem?_eq_some_iff.1 hj;obtain⟨o_,rfl⟩:=List.getElem?_eq_some_iff.1 hk;rcases Nat.lt_or_gt_of_ne fB with h|h
 ·exact h2 j k zN o_ h
 exact hS (h2 k j o_ zN h)
theorem St.swap{A B C:List cS}(hs:St g0 g (A++(B++C))):St g0 g (B++(A++C)):=hs.perm (by rw[←List.append_assoc,←List.append_assoc];exact List.Perm.append_right _ List.perm_append_comm)
theorem cF.same{R:G→Value→Prop}{v:Value}(h:R g v):cF g R (.returned v) g.w:=⟨g,v,rfl,a_.refl g,rfl,h⟩
theorem cF.of{g':G}{R:G→Value→Prop}{v:Value}(hf:a_ g g')(h:R g' v):cF g R (.returned v) g'.w:=⟨g',v,rfl,hf,rfl,h⟩
theorem Row.pos{B:Nat}{e:TypeId}{k n c:Nat}{ad:Option Addr}{xs:List Value}(h:Row B e k (.slice ad n c) n xs w)(hn:n≠0): ∃b p,ad=some ⟨b,p,none⟩:=by
 rcases h.2 with⟨h0,_⟩|⟨b,off,cap,cur,e1,_⟩
 ·exact absurd h0 hn
 simp only[Value.slice.injEq]at e1;exact⟨b,off,e1.1⟩
end Go.K
namespace Go.K
open Go Go.RowKit
variable {F:Fence} {P:Program} {N:Nat} {ds:List Deferred} {l l':Env} {a:Act} {w:World} {Q:Exit→Act→World→Prop} {ops:Array Oper} {os:List Oper} {o:Oper}
variable {g0 g:G} {L L':List cS} {K:Value→World→Prop} {R:Ending→World→Prop}
theorem St.Xr{g0 g:G}{e:cS}{B C:List cS}(hs:St g0 g (e::(B++C))):St g0 g (B++(e::C)):=hs.perm List.perm_middle.symm
theorem St.TF{g0 g:G}{e:cS}{B C:List cS}(hs:St g0 g (B++(e::C))):St g0 g (e::(B++C)):=hs.perm List.perm_middle
end Go.K
namespace Go.K
open Go Go.RowKit
class dR(P:Program) where
 tb:Tb
 ok:tb.ok P
 mixed:P.follows .mixedOrders=true
class jA(F:Fence):Prop where
 all: ∀f,F.fn f
 fn:F.fn=Wd.fn
 deep:F.depth=none
 alive:F.alive=false
instance:jA Wd:=⟨fun _=>trivial,rfl,rfl,rfl⟩
instance{r:Option Nat}:jA {Wd with round:=r}:=⟨fun _=>trivial,rfl,rfl,rfl⟩
inductive r_(P:Program)(g:G) where
 |o (i:Nat)
 |e {b p:Nat} {ys:List Value} (h:EP g b p ys) (off:Nat)
 |z {b:Nat} {ys:List Value} (h:EP g b 0 ys)
 |c {f:Nat} {aa:List Value} {v:Value} (hc:ag P f) (h: ∀g',g.le g'→CallsIn Wd 0 P f aa.toArray g'.w (cF g' fun _ r=>r=v))
variable {F:Fence} {P:Program} {N:Nat} {ds:List Deferred} {l l':Env} {a:Act} {w:World} {Q Q':Exit→Act→World→Prop} {ops:Array Oper} {os j9:List Oper} {o:Oper}
variable {g0 g:G} {L:List cS}
def Kd(tb:Tb)(l:Env)(L:List cS)(t:Nat)(x:Operand):r_ P g→Option (Addr×Addr×Value)
 | .o i=>
  match L[i]? with
  |some (.obj b (.cells c _ _))=>
   match ev l x with
   |some (.pointer (some ad))=>
    match vj tb t c.toList ad.off with
    |some v=>some (ad,⟨b,ad.off,none⟩,v)
    |none=>none
   |_=>none
  |_=>none
 | @r_.e _ _ b p ys _ off=>
  match ev l x with
  |some (.pointer (some ad))=>
   match vj tb t ys off with
   |some v=>some (ad,⟨b,p+off,none⟩,v)
   |none=>none
  |_=>none
 | @r_.z _ _ b ys _=>
  match ev l x with
  |some (.pointer (some ad))=>
   match vj tb t ys ad.off with
   |some v=>some (ad,⟨b,ad.off,none⟩,v)
   |none=>none
  |_=>none
 | .c .. =>none
def Gi(tb:Tb)(l:Env)(op:Op):Option Value:=
 match Tz tb l op with
 |some v=>some v
 |none=>LJ tb l op
def eR(tb:Tb)(ops:Array Oper)(N:Nat)(L:List cS):List (r_ P g)→List Oper→Nat→Env→List Addr→List Addr→Option (List Addr×List Addr×List Oper×Env)
 |_,os,0,l,xs,ys=>some (xs,ys,os,l)
 |_,[],_+1,_,_,_=>none
 |hs,o::os,n+1,l,xs,ys=>
  match mx ops l o.guard with
  |none=>none
  |some false=>
   match o.dst with
   |some d=>bif Nat.blt d N then eR tb ops N L hs os n ((d,undef)::l) xs ys else none
   |none=>eR tb ops N L hs os n l xs ys
  |some true=>
   match o.dst with
   |none=>none
   |some d=>bif Nat.blt d N then
     match o.op with
     | .load t x=>
      match hs with
      |[]=>none
      |h::hr=>
       match Kd tb l L t x h with
       |some (p,q,v)=>eR tb ops N L hr os n ((d,v)::l) (p::xs) (q::ys)
       |none=>none
     |op=>
      match Gi tb l op with
      |some v=>eR tb ops N L hs os n ((d,v)::l) xs ys
      |none=>none
    else none
theorem tU{K:Value→World→Prop}{tb:Tb}(dq:tb.ok P){t:Nat}{x:Operand}{ys:List Value}{b off:Nat}{v:Value}(ho:o.op= .load t x)(he:EP g b 0 ys)
  (hx:ev l x=some (.pointer (some ⟨b,off,none⟩))) (hv:vj tb t ys off=some v) (k:K v g.w):cD F P N ds o l g.w Q K:=
 bJ dq off (p:=0) ho he (by rw[Nat.zero_add];exact hx) hv k
theorem CN{tb:Tb}(dq:tb.ok P)(hs:St g0 g L){t:Nat}{x:Operand}{h:r_ P g}{p:Addr}{v:Value}{K:Value→World→Prop}(ho:o.op= .load t x)(hl:Kd tb l L t x h=some (p,p,v))(k:K v g.w):
  cD F P N ds o l g.w Q K:=by
 cases h with
 |o i=>
  simp only[Kd]at hl;split at hl
  ·rename_i b c E fz hi;split at hl
   ·rename_i ad hx;split at hl
    ·rename_i u hv;simp only[Option.some.injEq,Prod.mk.injEq]at hl;obtain⟨rfl,h2,rfl⟩:=hl;have Xt:ev l x=some (.pointer (some ⟨b,ad.off,none⟩)):=by rw[hx,h2]
     exact e_ dq i (cs:=c.toList) ho hs (by simpa using hi) Xt hv k
    cases hl
   cases hl
  cases hl
 | @e b q ys he off=>
  simp only[Kd]at hl;split at hl
  ·rename_i ad hx;split at hl
   ·rename_i u hv;simp only[Option.some.injEq,Prod.mk.injEq]at hl;obtain⟨rfl,h2,rfl⟩:=hl;exact bJ dq off ho he (by rw[hx,h2]) hv k
   cases hl
  cases hl
 | @z b q he=>
  simp only[Kd]at hl;split at hl
  ·rename_i ad hx;split at hl
   ·rename_i u hv;simp only[Option.some.injEq,Prod.mk.injEq]at hl;obtain⟨rfl,h2,rfl⟩:=hl;exact tU dq ho he (off:=ad.off) (by rw[hx,h2]) hv k
   cases hl
  cases hl
 |c hc h=>simp[Kd]at hl
theorem oj{tb:Tb}(dq:tb.ok P){v:Value}{K:Value→World→Prop}(h:Gi tb l o.op=some v)(k:K v w):cD F P N ds o l w Q K:=by
 unfold Gi at h;split at h
 ·rename_i u hu;simp only[Option.some.injEq]at h;subst h;exact aN tb dq hu k
 exact DR tb dq h k
def Rg:Op→Bool
 | .load .. =>true
 | .call {callee:=.value _,..}=>true
 |_=>false
def z_(tb:Tb)(l:Env)(L:List cS)(op:Op)(h:r_ P g):Option (Value×Value×Value):=
 match h with
 | @r_.c _ _ f aa v _ _=>
  match op with
  | .call {callee:=.value x,args,argTypes:=_}=>
   match ev l x with
   |some (.func (.func f') first cap)=>
    match sY l args.toList with
    |some vs=>some (.func (.func f') #[] (first.toList++vs++cap.toList).toArray,.func (.func f) #[] aa.toArray,v)
    |none=>none
   |_=>none
  |_=>none
 |h=>
  match op with
  | .load t x=>
   match Kd tb l L t x h with
   |some (p,q,v)=>some (.pointer (some p),.pointer (some q),v)
   |none=>none
  |_=>none
def r_.mono{g':G}(h:r_ P g)(hle:g.le g'):r_ P g':=
 match h with
 | .o i=> .o i
 | .e h off=> .e (h.mono hle) off
 | .z h=> .z (h.mono hle)
 | .c hc h=> .c hc fun g2 h2=>h g2 (hle.trans h2)
theorem pZ{g':G}{tb:Tb}{op:Op}(h:r_ P g)(hle:g.le g'):z_ tb l L op (h.mono hle)=z_ tb l L op h:=by cases h<;>rfl
theorem uU{tb:Tb}(dq:tb.ok P)(hA:jA F)(hs:St g0 g L){h:r_ P g}{p:Value}{v:Value}{K:Value→World→Prop}(hl:z_ tb l L o.op h=some (p,p,v))(k: ∀g',a_ g g'→K v g'.w):
  cD F P N ds o l g.w Q K:=by
 have ld: ∀h:r_ P g,(match o.op with
   | .load t x=>match Kd tb l L t x h with
    |some (p,q,v)=>some (Value.pointer (some p),Value.pointer (some q),v)
    |none=>none
   |_=>none)=some (p,p,v)→cD F P N ds o l g.w Q K:=by
  intro h hl;split at hl
  ·rename_i t x ho;split at hl
   ·rename_i p' q' v' Kb;simp only[Option.some.injEq,Prod.mk.injEq]at hl;obtain⟨h1,h2,rfl⟩:=hl;rw[←h1]at h2;obtain rfl:q'=p':=by simpa using h2
    exact CN dq hs ho Kb (k g (a_.refl g))
   cases hl
  cases hl
 cases h with
 |o i=>exact ld _ hl
 |e he off=>exact ld _ hl
 |z he=>exact ld _ hl
 | @c f aa v' hc n4=>
  simp only[z_]at hl;split at hl
  ·rename_i x args ts ho;split at hl
   ·rename_i f' first cap hx
    split at hl
    ·rename_i vs TM;simp only[Option.some.injEq,Prod.mk.injEq]at hl;obtain⟨h1,h2,rfl⟩:=hl;rw[←h1]at h2;simp only[Value.func.injEq,Fn.func.injEq,true_and]at h2;obtain⟨h3,h4⟩:=h2;have h4:aa=first.toList++vs++cap.toList:=by simpa using h4
     subst h4;subst h3;refine au hc hA.all hA.deep ho hx TM rfl (CallsIn.kT hA.fn hA.deep hA.alive (n4 g (G.le.refl g))) fun g' r hf hr=>?_;subst hr;exact k g' hf
    cases hl
   cases hl
  cases hl
theorem om{tb:Tb}(dq:tb.ok P)(hF: ∀f,F.fn f)(dH:St g0 g L): ∀(n:Nat) (hs:List (r_ P g)) (os:List Oper) (l:Env) (xs ys rs ts:List Addr) (j9:List Oper) (l':Env),
  eR tb ops N L hs os n l xs ys=some (rs,ts,j9,l')→ ∃zs us,rs=zs++xs∧ts=us++ys∧zs.length=us.length∧(zs=us→WL F P N ds ops Q j9 l' g.w→WL F P N ds ops Q os l g.w)
 |0,hs,os,l,xs,ys,rs,ts,j9,l',h=>by simp only[eR,Option.some.injEq,Prod.mk.injEq]at h;obtain⟨rfl,rfl,rfl,rfl⟩:=h;exact⟨[],[],rfl,rfl,rfl,fun _ k=>k⟩
 |n+1,hs,[],l,xs,ys,rs,ts,j9,l',h=>by simp[eR]at h
 |n+1,hs,o::os,l,xs,ys,rs,ts,j9,l',h=>by
  simp only[eR]at h;split at h
  ·cases h
  ·rename_i hg;split at h
   ·rename_i d hd;cases hb:Nat.blt d N with
    |false=>simp[hb]at h
    |true=>
     simp only[hb,cond_true]at h;obtain⟨zs,us,e1,e2,e3,k⟩:=om dq hF dH n _ _ _ _ _ _ _ _ _ h;refine⟨zs,us,e1,e2,e3,fun hz hk=>qS hF hg (by rw[hd];exact hb) ?_⟩;rw[hd];exact k hz hk
   rename_i hd;obtain⟨zs,us,e1,e2,e3,k⟩:=om dq hF dH n _ _ _ _ _ _ _ _ _ h;refine⟨zs,us,e1,e2,e3,fun hz hk=>qS hF hg (by rw[hd];rfl) ?_⟩;rw[hd];exact k hz hk
  rename_i hg;split at h
  ·cases h
  rename_i d hd;cases hb:Nat.blt d N with
  |false=>simp[hb]at h
  |true=>
   simp only[hb,cond_true]at h;split at h
   ·rename_i t x ho;split at h
    ·cases h
    rename_i s hr;split at h
    ·rename_i p q v hl;obtain⟨zs,us,e1,e2,e3,k⟩:=om dq hF dH n _ _ _ _ _ _ _ _ _ h;refine⟨zs++[p],us++[q],by rw[e1];simp,by rw[e2];simp,by simp[e3],fun hz hk=>?_⟩;obtain⟨TH,Xu⟩:=List.append_inj hz e3;obtain rfl:p=q:=by simpa using Xu
     refine uS hg (by rw[hd];exact hb) (CN dq dH ho hl ?_);rw[hd];exact k TH hk
    cases h
   rename_i op Zp;split at h
   ·rename_i v hv;obtain⟨zs,us,e1,e2,e3,k⟩:=om dq hF dH n _ _ _ _ _ _ _ _ _ h;refine⟨zs,us,e1,e2,e3,fun hz hk=>uS hg (by rw[hd];exact hb) (oj dq hv ?_)⟩;rw[hd];exact k hz hk
   cases h
theorem Wm[dR P][jA F](n:Nat)(ss:List (r_ P g))(hs:St g0 g L){xs:List Addr}(h:eR (dR.tb P) ops N L ss os n l [] []=some (xs,xs,j9,l'))(k:WL F P N ds ops Q j9 l' g.w):WL F P N ds ops Q os l g.w:=by obtain⟨zs,us,e1,e2,_,f⟩:=om (F:=F) (P:=P) (ds:=ds) (Q:=Q) dR.ok jA.all hs n ss os l [] [] xs xs j9 l' h;simp only[List.append_nil]at e1 e2;exact f (e1.symm.trans e2) k
def pF(tb:Tb)(ops:Array Oper)(N:Nat)(L:List cS):List (r_ P g)→List Oper→Nat→Env→List (Value×Value)→Option (List (Value×Value)×List Oper×Env)
 |_,os,0,l,us=>some (us,os,l)
 |_,[],_+1,_,_=>none
 |hs,o::os,n+1,l,us=>
  match mx ops l o.guard with
  |none=>none
  |some false=>
   match o.dst with
   |some d=>bif Nat.blt d N then pF tb ops N L hs os n ((d,undef)::l) us else none
   |none=>pF tb ops N L hs os n l us
  |some true=>
   bif MJ N o.dst then
    bif Rg o.op then
     match hs with
     |[]=>none
     |h::hr=>
      match z_ tb l L o.op h with
      |some (p,q,v)=>pF tb ops N L hr os n (pt o.dst v l) ((p,q)::us)
      |none=>none
    else
     match Gi tb l o.op with
     |some v=>pF tb ops N L hs os n (pt o.dst v l) us
     |none=>none
   else none
theorem mX{α:Type}: ∀{l:List (α×α)},l.map Prod.fst=l.map Prod.snd→ ∀p∈l,p.1=p.2
 |[],_,p,h=>by simp at h
 |x::l,e,p,h=>by
  simp only[List.map_cons,List.cons.injEq]at e;rcases List.mem_cons.1 h with rfl|h
  ·exact e.1
  exact mX e.2 p h
def oo(tb:Tb)(ops:Array Oper)(N:Nat):List Oper→Nat→Env→Option (List Oper×Env)
 |os,0,l=>some (os,l)
 |[],_+1,_=>none
 |o::os,n+1,l=>
  match mx ops l o.guard with
  |none=>none
  |some false=>
   match o.dst with
   |some d=>bif Nat.blt d N then oo tb ops N os n ((d,undef)::l)else none
   |none=>oo tb ops N os n l
  |some true=>
   match o.dst with
   |none=>none
   |some d=>bif Nat.blt d N then
     match Gi tb l o.op with
     |some v=>oo tb ops N os n ((d,v)::l)
     |none=>none
    else none
theorem qU{tb:Tb}(dq:tb.ok P)(hF: ∀f,F.fn f): ∀(n:Nat) (os:List Oper) (l:Env) (j9:List Oper) (l':Env),
  oo tb ops N os n l=some (j9,l')→WL F P N ds ops Q j9 l' w→WL F P N ds ops Q os l w
 |0,os,l,j9,l',h,k=>by simp only[oo,Option.some.injEq,Prod.mk.injEq]at h;obtain⟨rfl,rfl⟩:=h;exact k
 |n+1,[],l,j9,l',h,k=>by simp[oo]at h
 |n+1,o::os,l,j9,l',h,k=>by
  simp only[oo]at h;split at h
  ·cases h
  ·rename_i hg;split at h
   ·rename_i d hd;cases hb:Nat.blt d N with
    |false=>simp[hb]at h
    |true=>
     simp only[hb,cond_true]at h;refine qS hF hg (by rw[hd];exact hb) ?_;rw[hd];exact qU dq hF n _ _ _ _ h k
   rename_i hd;refine qS hF hg (by rw[hd];rfl) ?_;rw[hd];exact qU dq hF n _ _ _ _ h k
  rename_i hg;split at h
  ·cases h
  rename_i d hd;cases hb:Nat.blt d N with
  |false=>simp[hb]at h
  |true=>
   simp only[hb,cond_true]at h;split at h
   ·rename_i v hv;refine uS hg (by rw[hd];exact hb) (oj dq hv ?_);rw[hd];exact qU dq hF n _ _ _ _ h k
   cases h
theorem Wp[dR P][jA F](n:Nat)(h:oo (dR.tb P) ops N os n l=some (j9,l'))(k:WL F P N ds ops Q j9 l' w):WL F P N ds ops Q os l w:=
 qU dR.ok jA.all n os l j9 l' h k
variable {id:Nat} {y:Code}
theorem cM(h:WL F P N ds ops (Exit.then (y.wpIn F 0 P Q) Q) ops.toList l w):W F P N ds (.seq (.region id ops false) y) Q l w:=aD (aA h)
theorem bW(h:W F P N ds y Q' l w):WL F P N ds ops (Exit.then (y.wpIn F 0 P Q') Q) [] l w:=aE (ar h)
theorem aY[dR P][jA F](h:oo (dR.tb P) ops N ops.toList ops.toList.length l=some ([],l'))(k:W F P N ds y Q l' w):W F P N ds (.seq (.region id ops false) y) Q l w:=cM (Wp _ h (bW k))
theorem cN[dR P][jA F](n:Nat)(h:oo (dR.tb P) ops N ops.toList n l=some (j9,l'))(k:WL F P N ds ops (Exit.then (y.wpIn F 0 P Q) Q) j9 l' w):W F P N ds (.seq (.region id ops false) y) Q l w:=cM (Wp _ h k)
theorem bj[dR P][jA F](h:oo (dR.tb P) ops N os os.length l=some ([],l'))(k:W F P N ds y Q' l' w):WL F P N ds ops (Exit.then (y.wpIn F 0 P Q') Q) os l w:=Wp _ h (bW k)
theorem l_[dR P][jA F](ss:List (r_ P g))(hs:St g0 g L){xs:List Addr}(h:eR (dR.tb P) ops N L ss ops.toList ops.toList.length l [] []=some (xs,xs,[],l'))(k:W F P N ds y Q l' g.w):W F P N ds (.seq (.region id ops false) y) Q l g.w:=cM (Wm _ ss hs h (bW k))
theorem dz[dR P][jA F](n:Nat)(ss:List (r_ P g))(hs:St g0 g L){xs:List Addr}(h:eR (dR.tb P) ops N L ss ops.toList n l [] []=some (xs,xs,j9,l'))(k:WL F P N ds ops (Exit.then (y.wpIn F 0 P Q) Q) j9 l' g.w):W F P N ds (.seq (.region id ops false) y) Q l g.w:=cM (Wm _ ss hs h k)
theorem Dk[dR P][jA F](ss:List (r_ P g))(hs:St g0 g L){xs:List Addr}(h:eR (dR.tb P) ops N L ss os os.length l [] []=some (xs,xs,[],l'))(k:W F P N ds y Q' l' g.w):WL F P N ds ops (Exit.then (y.wpIn F 0 P Q') Q) os l g.w:=Wm _ ss hs h (bW k)
end Go.K
namespace Go.K
open Go Go.RowKit
inductive FK where
 |e (x:Value)
 |f (φ:Fact)
def FK.fact:FK→Fact
 | .e x=>Fact.eq x
 | .f φ=>φ
abbrev fe{a:Value}(r:List FK):List FK:=.e a::r
abbrev eQ{a b:Value}(r:List FK):List FK:=.e a:: .e b::r
abbrev iY{a b c d:Value}(r:List FK):List FK:=.e a:: .e b:: .e c:: .e d::r
abbrev eO{a b c d e f g h:Value}(r:List FK):List FK:=.e a:: .e b:: .e c:: .e d:: .e e:: .e f:: .e g:: .e h::r
variable {F:Fence} {P:Program} {N:Nat} {ds:List Deferred} {l l' l0:Env} {a:Act} {w:World} {Q Q':Exit→Act→World→Prop} {ops:Array Oper} {os j9:List Oper} {o:Oper}
variable {g0 g gd g':G} {L:List cS} {φs:List Fact} {ks:List FK}
def LN(ks:List FK)(kv:List (Nat×Value))(j:Nat):Option Value:=
 match lk kv j with
 |some v=>some v
 |none=>
  match ks[j]? with
  |some (.e x)=>some x
  |_=>none
def DV(ks:List FK)(kv:List (Nat×Value)):List (Nat×Nat)→Env→Option Env
 |[],l=>some l
 |(j,d)::r,l=>
  match LN ks kv j with
  |some v=>DV ks kv r ((d,v)::l)
  |none=>none
def U9(ops:Array Oper)(js:List Nat):List (Nat×Nat):=js.filterMap fun j=>(dh ops j).map (j,·)
def ib(ops:Array Oper):List Oper→List (List Nat)→Bool
 |o::os,js::k8=>eb ops o==U9 ops js&&ib ops os k8
 |_,[]=>true
 |_,_=>false
def cn(tb:Tb)(ops:Array Oper)(ks:List FK)(l0:Env)(L:List cS):List (List Nat)→List (r_ P g)→Nat→List Oper→List (Nat×Value)→List (Value×Value)→Option (List (Value×Value)×List Oper×Nat)
 |[],_,i,os,_,us=>some (us,os,i)
 |_::_,_,_,[],_,_=>none
 |js::k8,hs,i,o::os,kv,us=>
  match DV ks kv (U9 ops js) l0 with
  |none=>none
  |some env=>
   match ks[i]? with
   |some (.e x)=>
    match mx ops env o.guard with
    |none=>none
    |some false=>cn tb ops ks l0 L k8 hs (i+1) os ((i,undef)::kv) ((x,undef)::us)
    |some true=>
     bif Rg o.op then
      match hs with
      |[]=>none
      |h::hr=>
       match z_ tb env L o.op h with
       |some (p,q,v)=>cn tb ops ks l0 L k8 hr (i+1) os ((i,v)::kv) ((p,q)::(x,v)::us)
       |none=>none
     else
      match Gi tb env o.op with
      |some v=>cn tb ops ks l0 L k8 hs (i+1) os ((i,v)::kv) ((x,v)::us)
      |none=>none
   |_=>none
theorem tE(j:Nat){x:Value}(h:ks[j]? =some (.e x)):fQ (ks.map FK.fact) j=Fact.eq x:=by unfold fQ;rw[List.getD_eq_getElem?_getD,List.getElem?_map,h];rfl
theorem II{kv:List (Nat×Value)}(Rh: ∀j v,lk kv j=some v→fQ (ks.map FK.fact) j=Fact.eq v){j:Nat}{v:Value}(h:LN ks kv j=some v):fQ (ks.map FK.fact) j=Fact.eq v:=by
 unfold LN at h;split at h
 ·rename_i u hu;simp only[Option.some.injEq]at h;subst h;exact Rh _ _ hu
 split at h
 ·rename_i x hx;simp only[Option.some.injEq]at h;subst h;exact tE _ hx
 cases h
theorem qV{kv:List (Nat×Value)}(Rh: ∀j v,lk kv j=some v→fQ (ks.map FK.fact) j=Fact.eq v){k:Env→Prop}: ∀(r:List (Nat×Nat)) (l env:Env),DV ks kv r l=some env→k env→QA (ks.map FK.fact) g r l k
 |[],l,env,h,hk=>by simp only[DV,Option.some.injEq]at h;subst h;exact hk
 |(j,d)::r,l,env,h,hk=>by
  simp only[DV]at h;split at h
  ·rename_i v hv;intro u hu;rw[II Rh hv]at hu;obtain rfl:u=v:=hu;exact qV Rh r _ _ h hk
  cases h
theorem qW{tb:Tb}(dq:tb.ok P)(hA:jA F)(dH:St g0 g L): ∀(k8:List (List Nat)) (hs:List (r_ P g)) (i:Nat) (os:List Oper) (kv:List (Nat×Value)) (us ts:List (Value×Value)) (j9:List Oper) (i':Nat),
  cn tb ops ks l0 L k8 hs i os kv us=some (ts,j9,i')→ib ops os k8=true→
  (∀p∈us,p∈ts)∧((∀p∈ts,p.1=p.2)→(∀j v,lk kv j=some v→fQ (ks.map FK.fact) j=Fact.eq v)→gK F P N ds ops Q (ks.map FK.fact) l0 g.dr i' j9→gK F P N ds ops Q (ks.map FK.fact) l0 g.dr i os)
 |[],hs,i,os,kv,us,ts,j9,i',h,_=>by simp only[cn,Option.some.injEq,Prod.mk.injEq]at h;obtain⟨rfl,rfl,rfl⟩:=h;exact⟨fun _ h=>h,fun _ _ k=>k⟩
 |_::_,hs,i,[],kv,us,ts,j9,i',h,_=>by simp[cn]at h
 |js::k8,hs,i,o::os,kv,us,ts,j9,i',h,hn=>by
  simp only[ib,Bool.and_eq_true,beq_iff_eq]at hn;obtain⟨Em,Eo⟩:=hn;simp only[cn]at h;split at h
  ·cases h
  rename_i env gk;split at h
  ·rename_i x hx;have tB:=tE i hx;have uV: ∀{v:Value},x=v→(∀j v,lk kv j=some v→fQ (ks.map FK.fact) j=Fact.eq v)→ ∀j u,lk ((i,v)::kv) j=some u→fQ (ks.map FK.fact) j=Fact.eq u:=by
    rintro v rfl hk j u hu;by_cases e:i=j
    ·subst e;rw[cJ]at hu;obtain rfl:=Option.some.inj hu;exact tB
    rw[bX _ _ e]at hu;exact hk j u hu
   have one: ∀{v:Value},x=v→(∀j v,lk kv j=some v→fQ (ks.map FK.fact) j=Fact.eq v)→(∀g',a_ g.dr g'→DK F P N ds ops Q (Fact.eq v) g' o env)→wR F P N ds ops Q (ks.map FK.fact) l0 g.dr i o:=by rintro v rfl hk hd;refine LB fun g' hf=>?_;rw[Em];refine qV hk _ _ _ gk ?_;rw[tB];exact hd g' hf
   split at h
   ·cases h
   ·rename_i hg;obtain⟨m2,k⟩:=qW dq hA dH _ _ _ _ _ _ _ _ _ h Eo;refine⟨fun p hp=>m2 p (List.mem_cons_of_mem _ hp),fun e2 hk hr=>?_⟩;have he:x=undef:=e2 _ (m2 _ (List.mem_cons_self ..));exact⟨one he hk fun g' hf=>r4 hg rfl,k e2 (uV he hk) hr⟩
   rename_i hg;cases hh:Rg o.op with
   |true=>
    simp only[hh,cond_true]at h;split at h
    ·cases h
    rename_i s hr;split at h
    ·rename_i p q v hl;obtain⟨m2,k⟩:=qW dq hA dH _ _ _ _ _ _ _ _ _ h Eo;refine⟨fun p hp=>m2 p (List.mem_cons_of_mem _ (List.mem_cons_of_mem _ hp)),fun e2 hk hr=>?_⟩;have he:x=v:=e2 _ (m2 _ (List.mem_cons_of_mem _ (List.mem_cons_self ..)));obtain rfl:p=q:=e2 _ (m2 _ (List.mem_cons_self ..));refine⟨one he hk fun g' hf=>aB hg ?_,k e2 (uV he hk) hr⟩;exact uU dq hA (dH.dr.call hf) ((pZ s ((G.bu _).trans hf.le)).trans hl) fun g2 xN=>⟨g2,rfl,xN,rfl⟩
    cases h
   |false=>
    simp only[hh,cond_false]at h;split at h
    ·rename_i v hv;obtain⟨m2,k⟩:=qW dq hA dH _ _ _ _ _ _ _ _ _ h Eo;refine⟨fun p hp=>m2 p (List.mem_cons_of_mem _ hp),fun e2 hk hr=>?_⟩;have he:x=v:=e2 _ (m2 _ (List.mem_cons_self ..));exact⟨one he hk fun g' hf=>aB hg (oj dq hv ⟨g',rfl,a_.refl g',rfl⟩),k e2 (uV he hk) hr⟩
    cases h
  cases h
def mY(tb:Tb)(ops:Array Oper)(ks:List FK)(l0:Env)(L:List cS)(k8:List (List Nat))(ss:List (r_ P g))(i:Nat)(os:List Oper):Option (List Value×List Value×List Oper×Nat):=
 match cn tb ops ks l0 L k8 ss i os [] []with
 |some (ts,j9,i')=>some (ts.map Prod.fst,ts.map Prod.snd,j9,i')
 |none=>none
theorem Dm[dR P][hA:jA F]{i i':Nat}{A:List Value}(k8:List (List Nat))(ss:List (r_ P g))(hs:St g0 g L)(hn:ib ops os k8=true)(h:mY (dR.tb P) ops ks l0 L k8 ss i os=some (A,A,j9,i'))
  (k:gK F P N ds ops Q (ks.map FK.fact) l0 g.dr i' j9):gK F P N ds ops Q (ks.map FK.fact) l0 g.dr i os:=by
 unfold mY at h;split at h
 ·rename_i ts U_ i2 h2;simp only[Option.some.injEq,Prod.mk.injEq]at h;obtain⟨rfl,e2,rfl,rfl⟩:=h;exact(qW dR.ok hA hs k8 ss i os [] [] _ _ _ h2 hn).2 (mX e2.symm) (fun j v hv=>by simp[lk]at hv) k
 cases h
theorem Dz[dR P][jA F]{i i':Nat}{A:List Value}(k8:List (List Nat))(ss:List (r_ P g))(hs:St g0 g L)(hn:ib ops os k8=true)(h:mY (dR.tb P) ops ks l0 L k8 ss i os=some (A,A,[],i')):
  gK F P N ds ops Q (ks.map FK.fact) l0 g.dr i os:=Dm k8 ss hs hn h trivial
theorem Dx[dR P][jA F]{i i':Nat}{A:List Value}(k8:List (List Nat))(hn:ib ops os k8=true)(h:mY (P:=P) (g:=g) (dR.tb P) ops ks l0 [] k8 [] i os=some (A,A,j9,i'))
  (k:gK F P N ds ops Q (ks.map FK.fact) l0 g.dr i' j9):gK F P N ds ops Q (ks.map FK.fact) l0 g.dr i os:=Dm k8 [] (St.start g) hn h k
theorem Dy[dR P][jA F]{i i':Nat}{A:List Value}(k8:List (List Nat))(hn:ib ops os k8=true)(h:mY (P:=P) (g:=g) (dR.tb P) ops ks l0 [] k8 [] i os=some (A,A,[],i')):
  gK F P N ds ops Q (ks.map FK.fact) l0 g.dr i os:=Dx k8 hn h trivial
variable {id:Nat} {y:Code}
theorem ea[dR P][jA F](ks:List FK)(m:Nat)(outs:List (Nat×Nat))(lT:(n_ N ops l0 m&&outs.all (fun p=>Nat.blt p.1 m&&(dh ops p.1==some p.2)))=true)
  (gV:gK F P N ds ops Q (ks.map FK.fact) l0 g.dr 0 (ops.toList.take m))
  (iT: ∀g',a_ g.dr g'→QA (ks.map FK.fact) g' outs l0 fun env=>WL F P N ds ops Q (ops.toList.drop m) env g'.w):W F P N ds (.region id ops true) Q l0 g.w:=by
 rw[Bool.and_eq_true]at lT;exact LO jA.all dR.mixed (ks.map FK.fact) m outs lT.1 lT.2 gV iT
theorem bP[dR P][jA F](hs:St g0 g L)(ks:List FK)(m:Nat)(outs:List (Nat×Nat))(lT:(n_ N ops l0 m&&outs.all (fun p=>Nat.blt p.1 m&&(dh ops p.1==some p.2)))=true){env:Env}(he:DV ks [] outs l0=some env)
  (gV:gK F P N ds ops Q (ks.map FK.fact) l0 g.dr 0 (ops.toList.take m))
  (iT: ∀g',St g0 g' L→g.le g'→WL F P N ds ops Q (ops.toList.drop m) env g'.w):W F P N ds (.region id ops true) Q l0 g.w:=
 ea ks m outs lT gV fun g' hf=>qV (fun j v hv=>by simp[lk]at hv) _ _ _ he (iT g' (hs.dr.call hf) ((G.bu _).trans hf.le))
end Go.K
namespace Go.Proofs.YtgehbndkogohpaaGreatDoor
open Go Go.K
theorem aJ(f:FuncId):Wd.fn f:=trivial
instance:dR Tryz.prog:=⟨T,T.ok,by kernel_rfl⟩
theorem VE:ag Tryz.prog 5:=by unfold ag;rw[Tryz.func5];kernel_rfl
theorem QV:ag Tryz.prog 8:=by unfold ag;rw[Tryz.func8];kernel_rfl
theorem Ur:ag Tryz.prog 9:=by unfold ag;rw[Tryz.func9];kernel_rfl
theorem RC:ag Tryz.prog 10:=by unfold ag;rw[Tryz.func10];kernel_rfl
theorem MQ:ag Tryz.prog 11:=by unfold ag;rw[Tryz.func11];kernel_rfl
theorem Hu:ag Tryz.prog 12:=by unfold ag;rw[Tryz.func12];kernel_rfl
theorem MS:ag Tryz.prog 14:=by unfold ag;rw[Tryz.func14];kernel_rfl
theorem Ks:ag Tryz.prog 15:=by unfold ag;rw[Tryz.func15];kernel_rfl
theorem L1:ag Tryz.prog 17:=by unfold ag;rw[Tryz.func17];kernel_rfl
theorem L9:ag Tryz.prog 18:=by unfold ag;rw[Tryz.func18];kernel_rfl
theorem RE:ag Tryz.prog 19:=by unfold ag;rw[Tryz.func19];kernel_rfl
theorem RF:ag Tryz.prog 20:=by unfold ag;rw[Tryz.func20];kernel_rfl
theorem RG:ag Tryz.prog 21:=by unfold ag;rw[Tryz.func21];kernel_rfl
theorem qo:ag Tryz.prog 24:=by unfold ag;rw[Tryz.func24];kernel_rfl
theorem Kt:ag Tryz.prog 25:=by unfold ag;rw[Tryz.func25];kernel_rfl
theorem RJ:ag Tryz.prog 26:=by unfold ag;rw[Tryz.func26];kernel_rfl
theorem MT:ag Tryz.prog 27:=by unfold ag;rw[Tryz.func27];kernel_rfl
theorem RL:ag Tryz.prog 28:=by unfold ag;rw[Tryz.func28];kernel_rfl
theorem Ku:ag Tryz.prog 29:=by unfold ag;rw[Tryz.func29];kernel_rfl
theorem MU:ag Tryz.prog 30:=by unfold ag;rw[Tryz.func30];kernel_rfl
theorem MV:ag Tryz.prog 31:=by unfold ag;rw[Tryz.func31];kernel_rfl
theorem MW:ag Tryz.prog 32:=by unfold ag;rw[Tryz.func32];kernel_rfl
theorem Kv:ag Tryz.prog 33:=by unfold ag;rw[Tryz.func33];kernel_rfl
theorem Kw:ag Tryz.prog 35:=by unfold ag;rw[Tryz.func35];kernel_rfl
theorem Hv:ag Tryz.prog 36:=by unfold ag;rw[Tryz.func36];kernel_rfl
theorem MX:ag Tryz.prog 37:=by unfold ag;rw[Tryz.func37];kernel_rfl
theorem MY:ag Tryz.prog 38:=by unfold ag;rw[Tryz.func38];kernel_rfl
theorem RN:ag Tryz.prog 39:=by unfold ag;rw[Tryz.func39];kernel_rfl
theorem RO:ag Tryz.prog 40:=by unfold ag;rw[Tryz.func40];kernel_rfl
theorem RP:ag Tryz.prog 41:=by unfold ag;rw[Tryz.func41];kernel_rfl
theorem RQ:ag Tryz.prog 42:=by unfold ag;rw[Tryz.func42];kernel_rfl
theorem RR:ag Tryz.prog 43:=by unfold ag;rw[Tryz.func43];kernel_rfl
theorem qd:ag Tryz.prog 45:=by unfold ag;rw[Tryz.func45];kernel_rfl
theorem Kx:ag Tryz.prog 46:=by unfold ag;rw[Tryz.func46];kernel_rfl
theorem MZ:ag Tryz.prog 47:=by unfold ag;rw[Tryz.func47];kernel_rfl
theorem IN:ag Tryz.prog 48:=by unfold ag;rw[Tryz.func48];kernel_rfl
theorem M3:ag Tryz.prog 49:=by unfold ag;rw[Tryz.func49];kernel_rfl
theorem IW:ag Tryz.prog 50:=by unfold ag;rw[Tryz.func50];kernel_rfl
theorem Mf:ag Tryz.prog 51:=by unfold ag;rw[Tryz.func51];kernel_rfl
theorem Ky:ag Tryz.prog 52:=by unfold ag;rw[Tryz.func52];kernel_rfl
theorem M4:ag Tryz.prog 53:=by unfold ag;rw[Tryz.func53];kernel_rfl
theorem RU:ag Tryz.prog 54:=by unfold ag;rw[Tryz.func54];kernel_rfl
theorem Kz:ag Tryz.prog 55:=by unfold ag;rw[Tryz.func55];kernel_rfl
theorem RV:ag Tryz.prog 56:=by unfold ag;rw[Tryz.func56];kernel_rfl
theorem RW:ag Tryz.prog 57:=by unfold ag;rw[Tryz.func57];kernel_rfl
theorem RX:ag Tryz.prog 58:=by unfold ag;rw[Tryz.func58];kernel_rfl
theorem RY:ag Tryz.prog 59:=by unfold ag;rw[Tryz.func59];kernel_rfl
theorem M5:ag Tryz.prog 68:=by unfold ag;rw[Tryz.func68];kernel_rfl
theorem KA:ag Tryz.prog 69:=by unfold ag;rw[Tryz.func69];kernel_rfl
theorem M6:ag Tryz.prog 70:=by unfold ag;rw[Tryz.func70];kernel_rfl
theorem M7:ag Tryz.prog 71:=by unfold ag;rw[Tryz.func71];kernel_rfl
theorem KB:ag Tryz.prog 72:=by unfold ag;rw[Tryz.func72];kernel_rfl
theorem M8:ag Tryz.prog 73:=by unfold ag;rw[Tryz.func73];kernel_rfl
theorem R2:ag Tryz.prog 74:=by unfold ag;rw[Tryz.func74];kernel_rfl
theorem R3:ag Tryz.prog 75:=by unfold ag;rw[Tryz.func75];kernel_rfl
theorem AQ:ag Tryz.prog 76:=by unfold ag;rw[Tryz.func76];kernel_rfl
theorem R4:ag Tryz.prog 77:=by unfold ag;rw[Tryz.func77];kernel_rfl
theorem R5:ag Tryz.prog 78:=by unfold ag;rw[Tryz.func78];kernel_rfl
theorem R6:ag Tryz.prog 79:=by unfold ag;rw[Tryz.func79];kernel_rfl
theorem R7:ag Tryz.prog 80:=by unfold ag;rw[Tryz.func80];kernel_rfl
theorem R8:ag Tryz.prog 81:=by unfold ag;rw[Tryz.func81];kernel_rfl
theorem R9:ag Tryz.prog 82:=by unfold ag;rw[Tryz.func82];kernel_rfl
theorem R_:ag Tryz.prog 83:=by unfold ag;rw[Tryz.func83];kernel_rfl
theorem Sa:ag Tryz.prog 84:=by unfold ag;rw[Tryz.func84];kernel_rfl
theorem Sb:ag Tryz.prog 85:=by unfold ag;rw[Tryz.func85];kernel_rfl
theorem Sc:ag Tryz.prog 86:=by unfold ag;rw[Tryz.func86];kernel_rfl
theorem Sd:ag Tryz.prog 87:=by unfold ag;rw[Tryz.func87];kernel_rfl
theorem Se:ag Tryz.prog 88:=by unfold ag;rw[Tryz.func88];kernel_rfl
theorem Sf:ag Tryz.prog 89:=by unfold ag;rw[Tryz.func89];kernel_rfl
theorem Sh:ag Tryz.prog 90:=by unfold ag;rw[Tryz.func90];kernel_rfl
theorem Si:ag Tryz.prog 91:=by unfold ag;rw[Tryz.func91];kernel_rfl
theorem Sj:ag Tryz.prog 92:=by unfold ag;rw[Tryz.func92];kernel_rfl
theorem KC:ag Tryz.prog 93:=by unfold ag;rw[Tryz.func93];kernel_rfl
theorem AR:ag Tryz.prog 94:=by unfold ag;rw[Tryz.func94];kernel_rfl
theorem Sk:ag Tryz.prog 95:=by unfold ag;rw[Tryz.func95];kernel_rfl
theorem Sl:ag Tryz.prog 96:=by unfold ag;rw[Tryz.func96];kernel_rfl
theorem Sm:ag Tryz.prog 97:=by unfold ag;rw[Tryz.func97];kernel_rfl
theorem Sn:ag Tryz.prog 98:=by unfold ag;rw[Tryz.func98];kernel_rfl
theorem xx:ag Tryz.prog 99:=by unfold ag;rw[Tryz.func99];kernel_rfl
theorem M9:ag Tryz.prog 100:=by unfold ag;rw[Tryz.func100];kernel_rfl
theorem Ey:ag Tryz.prog 101:=by unfold ag;rw[Tryz.func101];kernel_rfl
theorem Jl:ag Tryz.prog 102:=by unfold ag;rw[Tryz.func102];kernel_rfl
theorem M_:ag Tryz.prog 103:=by unfold ag;rw[Tryz.func103];kernel_rfl
theorem Jm:ag Tryz.prog 106:=by unfold ag;rw[Tryz.func106];kernel_rfl
theorem M':ag Tryz.prog 107:=by unfold ag;rw[Tryz.func107];kernel_rfl
theorem Na:ag Tryz.prog 108:=by unfold ag;rw[Tryz.func108];kernel_rfl
theorem Ez:ag Tryz.prog 109:=by unfold ag;rw[Tryz.func109];kernel_rfl
theorem B4:ag Tryz.prog 110:=by unfold ag;rw[Tryz.func110];kernel_rfl
theorem Nb:ag Tryz.prog 111:=by unfold ag;rw[Tryz.func111];kernel_rfl
theorem Nc:ag Tryz.prog 112:=by unfold ag;rw[Tryz.func112];kernel_rfl
theorem Nd:ag Tryz.prog 113:=by unfold ag;rw[Tryz.func113];kernel_rfl
theorem Jn:ag Tryz.prog 114:=by unfold ag;rw[Tryz.func114];kernel_rfl
theorem Nf:ag Tryz.prog 115:=by unfold ag;rw[Tryz.func115];kernel_rfl
theorem Ng:ag Tryz.prog 116:=by unfold ag;rw[Tryz.func116];kernel_rfl
theorem Nh:ag Tryz.prog 117:=by unfold ag;rw[Tryz.func117];kernel_rfl
theorem Jo:ag Tryz.prog 118:=by unfold ag;rw[Tryz.func118];kernel_rfl
theorem qp:ag Tryz.prog 119:=by unfold ag;rw[Tryz.func119];kernel_rfl
theorem Ni:ag Tryz.prog 120:=by unfold ag;rw[Tryz.func120];kernel_rfl
theorem Nj:ag Tryz.prog 121:=by unfold ag;rw[Tryz.func121];kernel_rfl
theorem Jp:ag Tryz.prog 122:=by unfold ag;rw[Tryz.func122];kernel_rfl
theorem tP:ag Tryz.prog 123:=by unfold ag;rw[Tryz.func123];kernel_rfl
theorem EA:ag Tryz.prog 124:=by unfold ag;rw[Tryz.func124];kernel_rfl
theorem Nk:ag Tryz.prog 125:=by unfold ag;rw[Tryz.func125];kernel_rfl
theorem IY:ag Tryz.prog 127:=by unfold ag;rw[Tryz.func127];kernel_rfl
theorem IZ:ag Tryz.prog 128:=by unfold ag;rw[Tryz.func128];kernel_rfl
theorem EB:ag Tryz.prog 129:=by unfold ag;rw[Tryz.func129];kernel_rfl
theorem Nl:ag Tryz.prog 130:=by unfold ag;rw[Tryz.func130];kernel_rfl
theorem Nn:ag Tryz.prog 131:=by unfold ag;rw[Tryz.func131];kernel_rfl
theorem No:ag Tryz.prog 132:=by unfold ag;rw[Tryz.func132];kernel_rfl
theorem Jq:ag Tryz.prog 133:=by unfold ag;rw[Tryz.func133];kernel_rfl
theorem Jr:ag Tryz.prog 134:=by unfold ag;rw[Tryz.func134];kernel_rfl
theorem Np:ag Tryz.prog 135:=by unfold ag;rw[Tryz.func135];kernel_rfl
theorem Nq:ag Tryz.prog 136:=by unfold ag;rw[Tryz.func136];kernel_rfl
theorem Nr:ag Tryz.prog 137:=by unfold ag;rw[Tryz.func137];kernel_rfl
theorem Ns:ag Tryz.prog 138:=by unfold ag;rw[Tryz.func138];kernel_rfl
theorem Js:ag Tryz.prog 139:=by unfold ag;rw[Tryz.func139];kernel_rfl
theorem Nt:ag Tryz.prog 140:=by unfold ag;rw[Tryz.func140];kernel_rfl
theorem vZ:ag Tryz.prog 142:=by unfold ag;rw[Tryz.func142];kernel_rfl
theorem Nu:ag Tryz.prog 143:=by unfold ag;rw[Tryz.func143];kernel_rfl
theorem Nv:ag Tryz.prog 144:=by unfold ag;rw[Tryz.func144];kernel_rfl
theorem Nw:ag Tryz.prog 145:=by unfold ag;rw[Tryz.func145];kernel_rfl
theorem Nx:ag Tryz.prog 146:=by unfold ag;rw[Tryz.func146];kernel_rfl
theorem Ju:ag Tryz.prog 158:=by unfold ag;rw[Tryz.func158];kernel_rfl
theorem NA:ag Tryz.prog 159:=by unfold ag;rw[Tryz.func159];kernel_rfl
theorem kr:ag Tryz.prog 160:=by unfold ag;rw[Tryz.func160];kernel_rfl
theorem NB:ag Tryz.prog 161:=by unfold ag;rw[Tryz.func161];kernel_rfl
theorem NC:ag Tryz.prog 162:=by unfold ag;rw[Tryz.func162];kernel_rfl
theorem ND:ag Tryz.prog 163:=by unfold ag;rw[Tryz.func163];kernel_rfl
theorem NF:ag Tryz.prog 164:=by unfold ag;rw[Tryz.func164];kernel_rfl
theorem NG:ag Tryz.prog 165:=by unfold ag;rw[Tryz.func165];kernel_rfl
theorem NH:ag Tryz.prog 166:=by unfold ag;rw[Tryz.func166];kernel_rfl
theorem NI:ag Tryz.prog 167:=by unfold ag;rw[Tryz.func167];kernel_rfl
theorem NJ:ag Tryz.prog 168:=by unfold ag;rw[Tryz.func168];kernel_rfl
theorem NK:ag Tryz.prog 169:=by unfold ag;rw[Tryz.func169];kernel_rfl
theorem NL:ag Tryz.prog 170:=by unfold ag;rw[Tryz.func170];kernel_rfl
theorem NM:ag Tryz.prog 171:=by unfold ag;rw[Tryz.func171];kernel_rfl
theorem tQ:ag Tryz.prog 172:=by unfold ag;rw[Tryz.func172];kernel_rfl
theorem B6:ag Tryz.prog 173:=by unfold ag;rw[Tryz.func173];kernel_rfl
theorem B7:ag Tryz.prog 174:=by unfold ag;rw[Tryz.func174];kernel_rfl
theorem NN:ag Tryz.prog 175:=by unfold ag;rw[Tryz.func175];kernel_rfl
theorem qq:ag Tryz.prog 176:=by unfold ag;rw[Tryz.func176];kernel_rfl
theorem Jv:ag Tryz.prog 177:=by unfold ag;rw[Tryz.func177];kernel_rfl
theorem NO:ag Tryz.prog 178:=by unfold ag;rw[Tryz.func178];kernel_rfl
theorem NP:ag Tryz.prog 179:=by unfold ag;rw[Tryz.func179];kernel_rfl
theorem NQ:ag Tryz.prog 180:=by unfold ag;rw[Tryz.func180];kernel_rfl
theorem NR:ag Tryz.prog 181:=by unfold ag;rw[Tryz.func181];kernel_rfl
theorem NS:ag Tryz.prog 183:=by unfold ag;rw[Tryz.func183];kernel_rfl
theorem Jw:ag Tryz.prog 184:=by unfold ag;rw[Tryz.func184];kernel_rfl
theorem NT:ag Tryz.prog 185:=by unfold ag;rw[Tryz.func185];kernel_rfl
theorem NU:ag Tryz.prog 186:=by unfold ag;rw[Tryz.func186];kernel_rfl
theorem EC:ag Tryz.prog 187:=by unfold ag;rw[Tryz.func187];kernel_rfl
theorem NV:ag Tryz.prog 188:=by unfold ag;rw[Tryz.func188];kernel_rfl
theorem NW:ag Tryz.prog 189:=by unfold ag;rw[Tryz.func189];kernel_rfl
theorem NX:ag Tryz.prog 190:=by unfold ag;rw[Tryz.func190];kernel_rfl
theorem NY:ag Tryz.prog 191:=by unfold ag;rw[Tryz.func191];kernel_rfl
theorem NZ:ag Tryz.prog 192:=by unfold ag;rw[Tryz.func192];kernel_rfl
theorem N0:ag Tryz.prog 193:=by unfold ag;rw[Tryz.func193];kernel_rfl
theorem N1:ag Tryz.prog 194:=by unfold ag;rw[Tryz.func194];kernel_rfl
theorem N2:ag Tryz.prog 195:=by unfold ag;rw[Tryz.func195];kernel_rfl
theorem N3:ag Tryz.prog 196:=by unfold ag;rw[Tryz.func196];kernel_rfl
theorem N4:ag Tryz.prog 197:=by unfold ag;rw[Tryz.func197];kernel_rfl
theorem N5:ag Tryz.prog 198:=by unfold ag;rw[Tryz.func198];kernel_rfl
theorem N6:ag Tryz.prog 199:=by unfold ag;rw[Tryz.func199];kernel_rfl
theorem N7:ag Tryz.prog 200:=by unfold ag;rw[Tryz.func200];kernel_rfl
theorem N8:ag Tryz.prog 201:=by unfold ag;rw[Tryz.func201];kernel_rfl
theorem N9:ag Tryz.prog 202:=by unfold ag;rw[Tryz.func202];kernel_rfl
theorem Jy:ag Tryz.prog 214:=by unfold ag;rw[Tryz.func214];kernel_rfl
theorem N_:ag Tryz.prog 215:=by unfold ag;rw[Tryz.func215];kernel_rfl
theorem ED:ag Tryz.prog 216:=by unfold ag;rw[Tryz.func216];kernel_rfl
theorem Jz:ag Tryz.prog 217:=by unfold ag;rw[Tryz.func217];kernel_rfl
theorem N':ag Tryz.prog 218:=by unfold ag;rw[Tryz.func218];kernel_rfl
theorem Oa:ag Tryz.prog 219:=by unfold ag;rw[Tryz.func219];kernel_rfl
theorem Ob:ag Tryz.prog 220:=by unfold ag;rw[Tryz.func220];kernel_rfl
theorem Oc:ag Tryz.prog 221:=by unfold ag;rw[Tryz.func221];kernel_rfl
theorem Od:ag Tryz.prog 222:=by unfold ag;rw[Tryz.func222];kernel_rfl
theorem Oe:ag Tryz.prog 223:=by unfold ag;rw[Tryz.func223];kernel_rfl
theorem Of:ag Tryz.prog 224:=by unfold ag;rw[Tryz.func224];kernel_rfl
theorem JA:ag Tryz.prog 225:=by unfold ag;rw[Tryz.func225];kernel_rfl
theorem I0:ag Tryz.prog 228:=by unfold ag;rw[Tryz.func228];kernel_rfl
theorem Og:ag Tryz.prog 229:=by unfold ag;rw[Tryz.func229];kernel_rfl
theorem Oh:ag Tryz.prog 230:=by unfold ag;rw[Tryz.func230];kernel_rfl
theorem JB:ag Tryz.prog 231:=by unfold ag;rw[Tryz.func231];kernel_rfl
theorem Oi:ag Tryz.prog 232:=by unfold ag;rw[Tryz.func232];kernel_rfl
theorem JC:ag Tryz.prog 233:=by unfold ag;rw[Tryz.func233];kernel_rfl
theorem Oj:ag Tryz.prog 234:=by unfold ag;rw[Tryz.func234];kernel_rfl
theorem JD:ag Tryz.prog 235:=by unfold ag;rw[Tryz.func235];kernel_rfl
theorem Ol:ag Tryz.prog 236:=by unfold ag;rw[Tryz.func236];kernel_rfl
theorem Om:ag Tryz.prog 237:=by unfold ag;rw[Tryz.func237];kernel_rfl
theorem On:ag Tryz.prog 238:=by unfold ag;rw[Tryz.func238];kernel_rfl
theorem JE:ag Tryz.prog 239:=by unfold ag;rw[Tryz.func239];kernel_rfl
theorem Oo:ag Tryz.prog 240:=by unfold ag;rw[Tryz.func240];kernel_rfl
theorem Oq:ag Tryz.prog 244:=by unfold ag;rw[Tryz.func244];kernel_rfl
theorem Ot:ag Tryz.prog 245:=by unfold ag;rw[Tryz.func245];kernel_rfl
theorem Ou:ag Tryz.prog 246:=by unfold ag;rw[Tryz.func246];kernel_rfl
theorem Ov:ag Tryz.prog 248:=by unfold ag;rw[Tryz.func248];kernel_rfl
theorem Ow:ag Tryz.prog 249:=by unfold ag;rw[Tryz.func249];kernel_rfl
theorem Ox:ag Tryz.prog 250:=by unfold ag;rw[Tryz.func250];kernel_rfl
theorem Oy:ag Tryz.prog 251:=by unfold ag;rw[Tryz.func251];kernel_rfl
theorem Oz:ag Tryz.prog 252:=by unfold ag;rw[Tryz.func252];kernel_rfl
theorem v_:ag Tryz.prog 260:=by unfold ag;rw[Tryz.func260];kernel_rfl
theorem OA:ag Tryz.prog 261:=by unfold ag;rw[Tryz.func261];kernel_rfl
theorem OB:ag Tryz.prog 262:=by unfold ag;rw[Tryz.func262];kernel_rfl
theorem OC:ag Tryz.prog 263:=by unfold ag;rw[Tryz.func263];kernel_rfl
theorem OD:ag Tryz.prog 264:=by unfold ag;rw[Tryz.func264];kernel_rfl
theorem JG:ag Tryz.prog 270:=by unfold ag;rw[Tryz.func270];kernel_rfl
theorem JH:ag Tryz.prog 271:=by unfold ag;rw[Tryz.func271];kernel_rfl
theorem OE:ag Tryz.prog 272:=by unfold ag;rw[Tryz.func272];kernel_rfl
theorem OF:ag Tryz.prog 274:=by unfold ag;rw[Tryz.func274];kernel_rfl
theorem OG:ag Tryz.prog 275:=by unfold ag;rw[Tryz.func275];kernel_rfl
theorem OH:ag Tryz.prog 276:=by unfold ag;rw[Tryz.func276];kernel_rfl
theorem OI:ag Tryz.prog 277:=by unfold ag;rw[Tryz.func277];kernel_rfl
theorem B8:ag Tryz.prog 282:=by unfold ag;rw[Tryz.func282];kernel_rfl
theorem fp:ag Tryz.prog 283:=by unfold ag;rw[Tryz.func283];kernel_rfl
theorem JI:ag Tryz.prog 284:=by unfold ag;rw[Tryz.func284];kernel_rfl
theorem qs:ag Tryz.prog 285:=by unfold ag;rw[Tryz.func285];kernel_rfl
theorem JJ:ag Tryz.prog 286:=by unfold ag;rw[Tryz.func286];kernel_rfl
theorem OJ:ag Tryz.prog 292:=by unfold ag;rw[Tryz.func292];kernel_rfl
theorem OK:ag Tryz.prog 295:=by unfold ag;rw[Tryz.func295];kernel_rfl
theorem OL:ag Tryz.prog 296:=by unfold ag;rw[Tryz.func296];kernel_rfl
theorem OM:ag Tryz.prog 301:=by unfold ag;rw[Tryz.func301];kernel_rfl
theorem ON:ag Tryz.prog 302:=by unfold ag;rw[Tryz.func302];kernel_rfl
theorem OO:ag Tryz.prog 306:=by unfold ag;rw[Tryz.func306];kernel_rfl
end Go.Proofs.YtgehbndkogohpaaGreatDoor
namespace Go.K
open Go
class Mn(p:Prop)(g g':G)(q:outParam Prop):Prop where
 mn:g.le g'→p→q
variable {g g':G} {A B C D E F A' B' C' D' E' F':Prop}
instance{α:Type}[El α]{v:Value}{xs:List α}:Mn (Rs g v xs) g g' (Rs g' v xs):=⟨fun h a=>a.mono h⟩
instance{α:Type}[El α]{cs:List Value}{xs:List α}:Mn (cG g cs xs) g g' (cG g' cs xs):=⟨fun h a=>a.mono h⟩
instance{b o:Nat}{ys:List Value}:Mn (EP g b o ys) g g' (EP g' b o ys):=⟨fun h a=>a.mono h⟩
instance{g0:G}:Mn (G.le g0 g) g g' (G.le g0 g'):=⟨fun h a=>a.trans h⟩
theorem cf[Mn A g g' A'][Mn B g g' B'](h:g.le g')(a:A)(b:B):A'∧B':=⟨Mn.mn h a,Mn.mn h b⟩
theorem dy[Mn A g g' A'][Mn B g g' B'][Mn C g g' C'](h:g.le g')(a:A)(b:B)(c:C):A'∧B'∧C':=⟨Mn.mn h a,cf h b c⟩
theorem eS[Mn A g g' A'][Mn B g g' B'][Mn C g g' C'][Mn D g g' D'](h:g.le g')(a:A)(b:B)(c:C)(d:D):A'∧B'∧C'∧D':=⟨Mn.mn h a,dy h b c d⟩
theorem kO[Mn A g g' A'][Mn B g g' B'][Mn C g g' C'][Mn D g g' D'][Mn E g g' E'](h:g.le g')(a:A)(b:B)(c:C)(d:D)(e:E):A'∧B'∧C'∧D'∧E':=⟨Mn.mn h a,eS h b c d e⟩
theorem lR[Mn A g g' A'][Mn B g g' B'][Mn C g g' C'][Mn D g g' D'][Mn E g g' E'][Mn F g g' F'](h:g.le g')(a:A)(b:B)(c:C)(d:D)(e:E)(f:F):A'∧B'∧C'∧D'∧E'∧F':=⟨Mn.mn h a,kO h b c d e f⟩
end Go.K
namespace Go.Proofs.YtgehbndkogohpaaGreatDoor
structure Step where
 cE:Int
 dt:List Int
 min:Int
 max:Int
 next:List Int
 back:Int
 dI:Int
structure bZ where
 src:Int
 dst:Int
 dI:Int
structure bQ where
 bB:Int
 bU:Int
 steps:List Step
 windows:List bZ
def within(n lo hi:Int):Bool:=decide (lo≤n)&&decide (n≤hi)
def iF(lo hi:Int):Int→List Int→Bool
 |_,[]=>true
 |p,n::r=>within n lo hi&&decide (p<n)&&iF lo hi n r
def ascending(l:List Int)(lo hi:Int):Bool:=
 match l with
 |[]=>true
 |n::r=>within n lo hi&&iF lo hi n r
def bT(s:Step)(n:Int):Bool:=
 ((s.back== -1&&s.dI==0)||(within s.back 0 (n-1)&&within s.dI 1 9))&&(within s.dt.length 1 8&&decide ((s.next.length:Int)≤4))&&
 within s.cE 1 1000000&&ascending s.dt 0 59&&ascending s.next 0 (n-1)&&decide (1≤s.min)&&decide (s.min≤s.max)&&decide (s.max≤10000)
def de(w:bZ)(n:Int):Bool:=
 within w.src 0 (n-1)&&within w.dst 0 (n-1)&&(w.src !=w.dst)&&within w.dI 0 1000000
def ly(v w:bZ):Bool:=decide (v.src<w.src)||(v.src==w.src&&decide (v.dst<w.dst))
def follows(l:List bZ)(w:bZ):Bool:=
 match l.getLast? with
 |none=>true
 |some v=>ly v w
def dA(f:bQ):Bool:=decide (0≤f.bB)&&decide (f.bB≤f.bU)&&decide (f.bU≤10000)
def dB(n:Int):List bZ→List bZ→Bool
 |_,[]=>true
 |pre,w::r=>de w n&&follows pre w&&dB n (pre++[w]) r
def valid(f:bQ):Bool:=
 dA f&&within f.steps.length 1 40&&decide ((f.windows.length:Int)≤20)&&f.steps.all (fun s=>bT s f.steps.length)&&dB f.steps.length [] f.windows
end Go.Proofs.YtgehbndkogohpaaGreatDoor

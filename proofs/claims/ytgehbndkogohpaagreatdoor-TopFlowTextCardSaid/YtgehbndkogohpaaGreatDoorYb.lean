/- Parts of the proof, from: A region that draws its order: its operations are shown one by one, each in whatever world the others may have left; what each yields is a fact that further new memory does not turn. -/
import Derived.Test.YtgehbndkogohpaaGreatDoorYa
import Derived.WalkSpells
import Derived.WalkLawsBesides
import Derived.Scope
namespace Go.K
open Go Go.RowKit
structure Fact where
 p:Value→G→Prop
 mono: ∀v g g',a_ g g'→p v g→p v g'
def Fact.eq(x:Value):Fact:=⟨fun v _=>v=x,fun _ _ _ _ h=>h⟩
def Fact.any:Fact:=⟨fun _ _=>True,fun _ _ _ _ h=>h⟩
def Fact.rs{α:Type}[El α](xs:List α):Fact:=⟨fun v g=>Rs g v xs,fun _ _ _ hf h=>h.mono hf.le⟩
def Fact.ep(c:Nat→Nat→G→Prop)(hc: ∀b p g g',a_ g g'→c b p g→c b p g'):Fact:=
 ⟨fun v g=> ∃b p,v= .pointer (some ⟨b,p,none⟩)∧c b p g,fun _ _ _ hf ⟨b,p,e,h⟩=>⟨b,p,e,hc _ _ _ _ hf h⟩⟩
def fQ(φs:List Fact)(i:Nat):Fact:=φs.getD i Fact.any
def kH(o:Oper):List Nat:=(o.after.toList.filter (Region.binds .any)).map (·.on)
def CR(o:Oper):List Nat:=o.op.operands.toList.filterMap fun| .tmp t=>some t|_=>none
def dh(ops:Array Oper)(j:Nat):Option Nat:=(ops[j]?).bind (·.dst)
def eb(ops:Array Oper)(o:Oper):List (Nat×Nat):=
 (kH o).filterMap fun j=>
  match dh ops j with
  |some d=>bif (CR o).contains d||(match o.guard with|some (g,_)=>g==j|none=>false)then some (j,d)else none
  |none=>none
def QA(φs:List Fact)(g:G):List (Nat×Nat)→Env→(Env→Prop)→Prop
 |[],l,k=>k l
 |(j,d)::r,l,k=> ∀v,(fQ φs j).p v g→QA φs g r ((d,v)::l) k
variable (F:Fence) (P:Program) (N:Nat) (ds:List Deferred) (ops:Array Oper) (Q:Exit→Act→World→Prop) (φs:List Fact) (l0:Env) (gd:G)
def wR(i:Nat)(o:Oper):Prop:=
 ∀g',a_ gd g'→QA φs g' (eb ops o) l0 fun env=>
  match mx ops env o.guard with
  |some true=>cD F P N ds o env g'.w Q fun v w'=> ∃dc,dc.w=w'∧a_ g' dc∧(fQ φs i).p v dc
  |some false=>(fQ φs i).p undef g'
  |none=>False
def gK:Nat→List Oper→Prop
 |_,[]=>True
 |i,o::os=>wR F P N ds ops Q φs l0 gd i o∧gK (i+1) os
def n_(m:Nat):Bool:=
 (List.range ops.size).all (fun i=>match ops[i]? with|some o=>(kH o).all (fun j=>Nat.blt j i)|none=>true)&&
 (List.range ops.size).all (fun j=>Nat.blt j m||(List.range j).all (fun k=>(List.range (j+1)).any (fun i=>Nat.blt k i&&(match ops[i]? with|some o=>(kH o).contains k|none=>false))))&&
 (List.range m).all (fun i=>match dh ops i with
  |some d=>Nat.blt d N&&(lk l0 d).isNone&&(List.range m).all (fun j=>j==i||(match dh ops j with|some e=>e !=d|none=>false))
  |none=>false)&&Nat.ble m ops.size
variable {F P N ds ops Q φs l0 gd}
theorem CS{o:Oper}{j:Nat}:j∈kH o↔ ∃e∈o.after,Region.binds .any e=true∧e.on=j:=by
 unfold kH;rw[List.mem_map];constructor
 ·rintro⟨e,he,rfl⟩;rw[List.mem_filter]at he;exact⟨e,by simpa using he.1,he.2,rfl⟩
 rintro⟨e,he,hb,rfl⟩;exact⟨e,List.mem_filter.2 ⟨by simpa using he,hb⟩,rfl⟩
theorem eL{j:Nat}{listed:Array Bool}:j∈Region.ready .any ops listed↔listed.getD j true=false∧ ∃o,ops[j]? =some o∧ ∀k∈kH o,listed.getD k false=true:=by
 rw[mem_ready];constructor
 ·rintro⟨h0,o,ho,h⟩;refine⟨h0,o,ho,fun k hk=>?_⟩;obtain⟨e,he,hb,rfl⟩:=CS.1 hk;exact h e he hb
 rintro⟨h0,o,ho,h⟩;exact⟨h0,o,ho,fun e he hb=>h _ (CS.2 ⟨e,he,hb,rfl⟩)⟩
theorem getD_lt{listed:Array Bool}{j:Nat}(h:j<listed.size)(a b:Bool):listed.getD j a=listed.getD j b:=by simp[h]
theorem iG(h1: ∀i o,ops[i]? =some o→ ∀j∈kH o,j<i): ∀(fuel i:Nat) (listed:Array Bool) (a:Act) (w:World),listed.size=ops.size→i≤ops.size→(∀j o,i≤j→ops[j]? =some o→ ∀k,k<j→ ∃i' o',k<i'∧i'≤j∧ops[i']? =some o'∧k∈kH o')→
  (∀j,j<ops.size→(listed.getD j false=true↔j<i))→ops.size-i≤fuel→wpListIn F 0 P ops Q (ops.toList.drop i) a w→wpAnyIn F 0 P .any ops Q fuel listed a w:=by
 intro fuel
 induction fuel with
 |zero=>
  intro i listed a w cP hi _ hl hf h;have vK:i=ops.size:=by omega
  subst vK;have hr:Region.ready .any ops listed=[]:=by apply List.eq_nil_iff_forall_not_mem.2;intro j hj;obtain⟨h0,o,ho,_⟩:=eL.1 hj;have bC:j<ops.size:=(Array.getElem?_eq_some_iff.1 ho).1;rw[getD_lt (cP▸bC) true false]at h0;rw[(hl j bC).2 bC]at h0;cases h0
  rw[List.drop_of_length_le (by simp)]at h;exact⟨hr,h⟩
 |succ fuel ih=>
  intro i listed a w cP hi ht hl hf h;by_cases vK:i=ops.size
  ·subst vK;have hr:Region.ready .any ops listed=[]:=by apply List.eq_nil_iff_forall_not_mem.2;intro j hj;obtain⟨h0,o,ho,_⟩:=eL.1 hj;have bC:j<ops.size:=(Array.getElem?_eq_some_iff.1 ho).1;rw[getD_lt (cP▸bC) true false]at h0;rw[(hl j bC).2 bC]at h0;cases h0
   rw[List.drop_of_length_le (by simp)]at h;exact⟨fun _=>h,by rw[hr];simp⟩
  have bC:i<ops.size:=by omega
  have ho:ops[i]? =some ops[i]:=Array.getElem?_eq_getElem bC;have gW:i∈Region.ready .any ops listed:=by
   rw[eL];refine⟨?_,_,ho,fun k hk=>?_⟩
   ·rw[getD_lt (cP▸bC) true false];cases hc:listed.getD i false with
    |false=>rfl
    |true=>have:=(hl i bC).1 hc;omega
   have:=h1 i _ ho k hk;exact(hl k (by omega)).2 this
  refine⟨fun h0=>(by rw[h0]at gW;cases gW),fun j hj=>?_⟩;obtain⟨h0,o,pn,cR⟩:=eL.1 hj;have Qp:j<ops.size:=(Array.getElem?_eq_some_iff.1 pn).1;rw[getD_lt (cP▸Qp) true false]at h0;have XM:i≤j:=by
   rcases Nat.lt_or_ge j i with h|h
   ·rw[(hl j Qp).2 h]at h0;cases h0
   exact h
  have LG:j=i:=by
   rcases Nat.lt_or_ge i j with h|h
   ·obtain⟨i',o2,h5,h6,h7,h8⟩:=ht j o XM pn (j-1) (by omega);obtain rfl:i'=j:=by omega
    rw[pn]at h7;obtain rfl:=Option.some.inj h7;have:=(hl (i'-1) (by omega)).1 (cR _ h8);omega
   omega
  subst LG;have hd:ops.toList.drop j=ops[j]::ops.toList.drop (j+1):=by rw[List.drop_eq_getElem_cons (by simpa using bC)];simp
  rw[hd]at h;have jb: ∀a' w',wpListIn F 0 P ops Q (ops.toList.drop (j+1)) a' w'→wpAnyIn F 0 P .any ops Q fuel (listed.setIfInBounds j true) a' w':=by
   intro a' w' h';refine ih (j+1) _ a' w' (by simpa using cP) (by omega) (fun j' o' vu=>ht j' o' (by omega)) (fun k hk=>?_) (by omega) h';by_cases Va:k=j
   ·subst Va;simp[cP,bC]
   have:(listed.setIfInBounds j true).getD k false=listed.getD k false:=by simp only[Array.getD_eq_getD_getElem?];rw[Array.getElem?_setIfInBounds_ne (fun e=>Va e.symm)]
   rw[this,hl k hk];omega
  unfold wpOpIn;rw[ho];simp only;simp only[wpListIn]at h;split
  ·rename_i hw;rw[if_pos hw]at h;exact Oper.wpIn_mono jb h
  rename_i hw;rw[if_neg hw]at h;exact⟨h.1,jb _ _ h.2⟩
theorem jM{g:G}{a:Act}: ∀(js:List (Nat×Nat)) {l:Env} {k:Env→Prop},QA φs g js l k→Fr N ds l a→(∀p∈js,∃v,a.tmps[p.2]? =some v∧(fQ φs p.1).p v g)→ ∃env,k env∧Fr N ds env a
 |[],l,k,h,ha,_=>⟨l,h,ha⟩
 |(j,d)::r,l,k,h,ha,hp=>by
  obtain⟨v,hv,hf⟩:=hp (j,d) (by simp);refine jM r (h v hf) ⟨ha.defers,ha.size,fun t u hu=>?_⟩ (fun p TT=>hp p (by simp[TT]));by_cases e:d=t
  ·subst e;rw[cJ]at hu;rw[←hu];exact hv
  rw[bX _ _ e]at hu;exact ha.get t u hu
theorem gK.at{i0:Nat}: ∀{l:List Oper} {i0:Nat},gK F P N ds ops Q φs l0 gd i0 l→ ∀(j:Nat) o,l[j]? =some o→wR F P N ds ops Q φs l0 gd (i0+j) o
 |[],_,_,j,o,h=>by simp at h
 |x::l,i0,hs,0,o,h=>by simp only[List.getElem?_cons_zero,Option.some.injEq]at h;subst h;exact hs.1
 |x::l,i0,hs,j+1,o,h=>by simp only[List.getElem?_cons_succ]at h;have:=gK.at (i0:=i0) hs.2 j o h;rw[show i0+(j+1)=i0+1+j from by omega];exact this
theorem LO{id:Nat}{g:G}(hF: ∀f,F.fn f)(hm:P.follows .mixedOrders=true)(φs:List Fact)(m:Nat)(outs:List (Nat×Nat))(lT:n_ N ops l0 m=true)
  (houts:outs.all (fun p=>Nat.blt p.1 m&&(dh ops p.1==some p.2))=true)
  (gV:gK F P N ds ops Q φs l0 g.dr 0 (ops.toList.take m))
  (iT: ∀g',a_ g.dr g'→QA φs g' outs l0 fun env=>WL F P N ds ops Q (ops.toList.drop m) env g'.w):W F P N ds (.region id ops true) Q l0 g.w:=by
 intro a ha;simp only[n_,Bool.and_eq_true,List.all_eq_true,List.mem_range]at lT;obtain⟨⟨⟨c1,c2⟩,c3⟩,c4⟩:=lT;have c4:m≤ops.size:=Nat.le_of_ble_eq_true c4;have k1: ∀i o,ops[i]? =some o→ ∀j∈kH o,j<i:=by intro i o ho j hj;have:=c1 i (Array.getElem?_eq_some_iff.1 ho).1;rw[ho]at this;have:=(List.all_eq_true.1 this) j hj;simpa [Nat.blt_eq]using this
 have k2: ∀j o,m≤j→ops[j]? =some o→ ∀k,k<j→ ∃i' o',k<i'∧i'≤j∧ops[i']? =some o'∧k∈kH o':=by
  intro j o hj ho k hk;have:=c2 j (Array.getElem?_eq_some_iff.1 ho).1;simp only[Bool.or_eq_true]at this;rcases this with h|h
  ·have:j<m:=by simpa [Nat.blt_eq]using h
   omega
  have:=(List.all_eq_true.1 h) k (List.mem_range.2 hk);obtain⟨i',h1,h2⟩:=List.any_eq_true.1 this;simp only[Bool.and_eq_true]at h2;have h3:=List.mem_range.1 h1;cases pn:ops[i']? with
  |none=>rw[pn]at h2;simp at h2
  |some o'=>
   rw[pn]at h2;exact⟨i',o',by simpa [Nat.blt_eq]using h2.1,by omega,pn,by simpa using h2.2⟩
 have k4: ∀(listed:Array Bool),(∀k o,listed.getD k false=true→ops[k]? =some o→ ∀e∈kH o,listed.getD e false=true)→ ∀j o,m≤j→ops[j]? =some o→(∀e∈kH o,listed.getD e false=true)→ ∀k,k<j→listed.getD k false=true:=by
  intro listed fr j o hj ho cR;have: ∀d k,k<j→j-k=d→listed.getD k false=true:=by
   intro d
   induction d using Nat.strongRecOn with
   |_ d Bt=>
    intro k hk hd;obtain⟨i',o',h1,h2,h3,h4⟩:=k2 j o hj ho k hk;rcases Nat.lt_or_ge i' j with h|h
    ·exact fr i' o' (Bt (j-i') (by omega) i' h rfl) h3 k h4
    obtain rfl:i'=j:=by omega
    rw[ho]at h3;obtain rfl:=Option.some.inj h3;exact cR k h4
  exact fun k hk=>this _ k hk rfl
 have k3: ∀i,i<m→ ∃d,dh ops i=some d∧d<N∧lk l0 d=none∧ ∀j,j<m→j≠i→ ∃e,dh ops j=some e∧e≠d:=by
  intro i hi;have:=c3 i hi;cases hd:dh ops i with
  |none=>simp[hd]at this
  |some d=>
   simp only[hd,Bool.and_eq_true,List.all_eq_true,List.mem_range,Bool.or_eq_true]at this;refine⟨d,rfl,by simpa [Nat.blt_eq]using this.1.1,by simpa using this.1.2,fun j hj fB=>?_⟩;rcases this.2 j hj with h|h
   ·exact absurd (by simpa using h) fB
   cases he:dh ops j with
   |none=>simp[he]at h
   |some e=>exact⟨e,rfl,by simpa [he]using h⟩
 refine wpIn_region_any hm ?_;have key: ∀(fuel:Nat) (listed:Array Bool) (a:Act) (g':G),listed.size=ops.size→a_ g.dr g'→Fr N ds l0 a→
   (∀i,i<m→listed.getD i false=true→ ∃d v,dh ops i=some d∧a.tmps[d]? =some v∧(fQ φs i).p v g')→(∀j,m≤j→j<ops.size→listed.getD j false=false)→(∀k o,listed.getD k false=true→ops[k]? =some o→ ∀e∈kH o,listed.getD e false=true)→
   (ops.size-((List.range ops.size).filter fun i=>listed.getD i false).length≤fuel)→wpAnyIn F 0 P .any ops Q fuel listed a g'.w:=by
  intro fuel
  induction fuel with
  |zero=>
   intro listed a g' cP hf ha ec fG fr qP;have cR: ∀j,j<ops.size→listed.getD j false=true:=by
    have hlen:((List.range ops.size).filter fun i=>listed.getD i false).length=(List.range ops.size).length:=by have:=List.length_filter_le (fun i=>listed.getD i false) (List.range ops.size);simp only[List.length_range]at this⊢;omega
    have:=List.length_filter_eq_length_iff.1 hlen;intro j hj;exact this j (List.mem_range.2 hj)
   have Dj:m=ops.size:=by
    rcases Nat.lt_or_ge m ops.size with h|h
    ·have:=fG m (Nat.le_refl _) h;rw[cR m h]at this;cases this
    omega
   obtain⟨env,hW,gk⟩:=jM outs (iT g' hf) ha (fun p hp=>by
    have:=(List.all_eq_true.1 houts) p hp;simp only[Bool.and_eq_true,beq_iff_eq]at this;have bC:p.1<m:=by simpa [Nat.blt_eq]using this.1
    obtain⟨d,v,hd,hv,jF⟩:=ec p.1 bC (cR _ (by omega));rw[this.2]at hd;obtain rfl:=Option.some.inj hd;exact⟨v,hv,jF⟩)
   refine iG k1 0 ops.size listed a g'.w cP (Nat.le_refl _) (fun j o hj ho=>?_) (fun j hj=>⟨fun _=>hj,fun _=>cR j hj⟩) (by omega) (by rw[←Dj];exact hW a gk);have:=(Array.getElem?_eq_some_iff.1 ho).1;omega
  |succ fuel ih=>
   intro listed a g' cP hf ha ec fG fr qP;by_cases gj: ∀j,j<m→listed.getD j false=true
   ·obtain⟨env,hW,gk⟩:=jM outs (iT g' hf) ha (fun p hp=>by
     have:=(List.all_eq_true.1 houts) p hp;simp only[Bool.and_eq_true,beq_iff_eq]at this;have bC:p.1<m:=by simpa [Nat.blt_eq]using this.1
     obtain⟨d,v,hd,hv,jF⟩:=ec p.1 bC (gj _ bC);rw[this.2]at hd;obtain rfl:=Option.some.inj hd;exact⟨v,hv,jF⟩)
    refine iG k1 (fuel+1) m listed a g'.w cP c4 (fun j o hj ho=>k2 j o hj ho) (fun j hj=>⟨fun h=>?_,fun h=>gj j h⟩) ?_ (hW a gk)
    ·rcases Nat.lt_or_ge j m with h'|h'
     ·exact h'
     rw[fG j h' hj]at h;cases h
    have hle:((List.range ops.size).filter fun i=>listed.getD i false).length≤m:=by
     have mS:((List.range ops.size).filter fun i=>listed.getD i false).length≤((List.range ops.size).filter fun i=>decide (i<m)).length:=by
      refine List.Sublist.length_le ?_;rw[show((List.range ops.size).filter fun i=>listed.getD i false)=((List.range ops.size).filter fun i=>decide (i<m)).filter (fun i=>listed.getD i false)from ?_]
      ·exact List.filter_sublist
      rw[List.filter_filter];refine List.filter_congr fun i hi=>?_;have hi:=List.mem_range.1 hi;by_cases h:i<m
      ·simp[h]
      rw[fG i (by omega) hi];simp
     have:((List.range ops.size).filter fun i=>decide (i<m)).length=m:=by
      have e:ops.size=m+(ops.size-m):=by omega
      rw[e,List.range_add,List.filter_append,List.length_append,List.filter_eq_self.2 (by intro x hx;simpa using hx),List.filter_eq_nil_iff.2 (by intro x hx;obtain⟨y,_,rfl⟩:=List.mem_map.1 hx;simp)];simp
     omega
    omega
   --oP of yZ first part is not listed:yZ least Iy is ready
   have hex: ∃j,j<m∧listed.getD j false=false∧ ∀k,k<j→listed.getD k false=true:=by
    have: ∃j,j<m∧listed.getD j false=false:=by
     apply Classical.byContradiction;intro dx;apply gj;intro j hj;cases hc:listed.getD j false with
     |true=>rfl
     |false=>exact absurd ⟨j,hj,hc⟩ dx
    obtain⟨j,hj⟩:=this
    induction j using Nat.strongRecOn with
    |_ j Iz=>
     by_cases hk: ∃k,k<j∧listed.getD k false=false
     ·obtain⟨k,o_,yU⟩:=hk;exact Iz k o_ ⟨by omega,yU⟩
     refine⟨j,hj.1,hj.2,fun k o_=>?_⟩;cases hc:listed.getD k false with
     |true=>rfl
     |false=>exact absurd ⟨k,o_,hc⟩ hk
   obtain⟨j0,Rb,zN,s_⟩:=hex;have gW:j0∈Region.ready .any ops listed:=by
    rw[eL];have bC:j0<ops.size:=by omega
    refine⟨by rw[getD_lt (cP▸bC) true false];exact zN,_,Array.getElem?_eq_getElem bC,fun k hk=>s_ k (k1 j0 _ (Array.getElem?_eq_getElem bC) k hk)⟩
   refine⟨fun h0=>(by rw[h0]at gW;cases gW),fun i hi=>?_⟩;obtain⟨h0,o,ho,cR⟩:=eL.1 hi;have mq:i<ops.size:=(Array.getElem?_eq_some_iff.1 ho).1;rw[getD_lt (cP▸mq) true false]at h0;have oa:i<m:=by
    rcases Nat.lt_or_ge i m with h|h
    ·exact h
    have:=k4 listed fr i o h ho cR j0 (by omega);rw[zN]at this;cases this
   obtain⟨d,hd,P6,P7,F9⟩:=k3 i oa;have rr:o.dst=some d:=by unfold dh at hd;rw[ho]at hd;exact hd
   have jZ:=gV.at (i0:=0) i o (by rw[List.getElem?_take_of_lt oa];simpa using ho);rw[Nat.zero_add]at jZ;have mT: ∀p∈eb ops o,∃v,a.tmps[p.2]? =some v∧(fQ φs p.1).p v g':=by
    intro p hp;unfold eb at hp;obtain⟨j,hj,uJ⟩:=List.mem_filterMap.1 hp;cases wU:dh ops j with
    |none=>simp[wU]at uJ
    |some e=>
     simp only[wU]at uJ;have IA:j<m:=by have:=k1 i o ho j hj;omega
     obtain⟨d',v,td,hv,jF⟩:=ec j IA (cR j hj);rw[wU]at td;obtain rfl:=Option.some.inj td;cases hb:((CR o).contains e||(match o.guard with|some (g,_)=>g==j|none=>false))with
     |false=>rw[hb]at uJ;simp at uJ
     |true=>
      rw[hb]at uJ;simp only[cond_true,Option.some.injEq]at uJ;subst uJ;exact⟨v,hv,jF⟩
   obtain⟨env,hk,gk⟩:=jM (eb ops o) (jZ g' hf) ha mT;have jb: ∀(a':Act) (dc:G) (v:Value),a'=a.put o.dst v→a_ g' dc→(fQ φs i).p v dc→wpAnyIn F 0 P .any ops Q fuel (listed.setIfInBounds i true) a' dc.w:=by
    intro a' dc v he eu jF;have nB: ∀t,t≠d→a'.tmps[t]? =a.tmps[t]?:=fun t ht=>by rw[he,rr];simp only[Act.put];rw[Array.getElem?_setIfInBounds_ne (fun e=>ht e.symm)]
    have pv:a'.tmps[d]? =some v:=by rw[he,rr];simp only[Act.put];rw[Array.getElem?_setIfInBounds_self,if_pos (by rw[ha.size];exact P6)]
    have gJ: ∀k,k≠i→(listed.setIfInBounds i true).getD k false=listed.getD k false:=fun k hk=>by simp only[Array.getD_eq_getD_getElem?];rw[Array.getElem?_setIfInBounds_ne (fun e=>hk e.symm)]
    have dn:(listed.setIfInBounds i true).getD i false=true:=by simp[cP,mq]
    refine ih _ a' dc (by simpa using cP) (hf.trans eu) ⟨by rw[he,rr];exact ha.defers,by rw[he,rr];simp[Act.put,ha.size],fun t u hu=>?_⟩ (fun k hk lg=>?_) (fun j hj F_=>?_) (fun k o' hk yb e he=>?_) ?_
    ·have J5:t≠d:=fun e=>by subst e;rw[P7]at hu;cases hu
     rw[nB t J5];exact ha.get t u hu
    ·by_cases jK:k=i
     ·subst jK;exact⟨d,v,hd,pv,jF⟩
     rw[gJ k jK]at lg;obtain⟨d',v',td,DN,yc⟩:=ec k hk lg;obtain⟨e,J6,J7⟩:=F9 k hk jK;rw[td]at J6;obtain rfl:=Option.some.inj J6;exact⟨d',v',td,by rw[nB d' J7];exact DN,(fQ φs k).mono _ _ _ eu yc⟩
    ·rw[gJ j (by omega)];exact fG j hj F_
    ·have hle: ∀x,listed.getD x false=true→(listed.setIfInBounds i true).getD x false=true:=fun x hx=>by
      by_cases yV:x=i
      ·subst yV;exact dn
      rw[gJ x yV];exact hx
     by_cases jK:k=i
     ·subst jK;rw[ho]at yb;obtain rfl:=Option.some.inj yb;exact hle e (cR e he)
     rw[gJ k jK]at hk;exact hle e (fr k o' hk yb e he)
    have bC:((List.range ops.size).filter fun k=>listed.getD k false).length<((List.range ops.size).filter fun k=>(listed.setIfInBounds i true).getD k false).length:=by
     have mS:List.Sublist ((List.range ops.size).filter fun k=>listed.getD k false) ((List.range ops.size).filter fun k=>(listed.setIfInBounds i true).getD k false):=by
      have e:((List.range ops.size).filter fun k=>listed.getD k false)=((List.range ops.size).filter fun k=>(listed.setIfInBounds i true).getD k false).filter (fun k=>listed.getD k false):=by
       rw[List.filter_filter];refine List.filter_congr fun k _=>?_;by_cases jK:k=i
       ·subst jK;rw[dn];simp
       rw[gJ k jK];simp
      rw[e];exact List.filter_sublist
     refine Nat.lt_of_le_of_ne mS.length_le fun e=>?_;have:=mS.eq_of_length e;have AM:i∈((List.range ops.size).filter fun k=>(listed.setIfInBounds i true).getD k false):=List.mem_filter.2 ⟨List.mem_range.2 mq,dn⟩;rw[←this]at AM;have:=(List.mem_filter.1 AM).2;rw[h0]at this;cases this
    omega
   unfold wpOpIn;rw[ho];simp only;cases hg:mx ops env o.guard with
   |none=>rw[hg]at hk;exact hk.elim
   |some b=>
    have lE:Region.wanted o (yielded ops a.tmps)=b:=jy (l:=env) (o:=o) hg gk;rw[hg]at hk;cases b with
    |true=>
     rw[if_pos lE];exact Oper.wpIn_mono (fun a' w' ⟨v,he,dc,hw,eu,jF⟩=>hw▸jb a' dc v he eu jF) (hk a gk)
    |false=>
     rw[if_neg (by rw[lE];simp)];exact⟨fun f _=>hF f,jb _ g' undef rfl (a_.refl _) hk⟩
 refine key ops.size _ a g.dr (by simp) (a_.refl _) ha (fun i hi hl=>?_) (fun j _ hj=>by simp[hj]) (fun k o hl=>?_) (by omega)
 ·simp only[Array.getD_eq_getD_getElem?,Array.getElem?_replicate]at hl;split at hl<;>simp at hl
 simp only[Array.getD_eq_getD_getElem?,Array.getElem?_replicate]at hl;split at hl<;>simp at hl
end Go.K
namespace Go.K
open Go Go.RowKit
variable {F:Fence} {P:Program} {N:Nat} {ds:List Deferred} {l l':Env} {a:Act} {w:World} {Q:Exit→Act→World→Prop} {ops:Array Oper} {os:List Oper} {o:Oper}
variable {g0 g:G} {L:List cS} {K:Value→World→Prop} {R:Ending→World→Prop}
def mW:Nat→List Value→Env
 |_,[]=>[]
 |i,v::r=>(i,v)::mW (i+1) r
theorem w4: ∀(vs:List Value) (i t:Nat) (v:Value),lk (mW i vs) t=some v→ ∃j,t=i+j∧vs[j]? =some v
 |[],i,t,v,h=>by simp[mW,lk]at h
 |u::r,i,t,v,h=>by
  by_cases e:i=t
  ·subst e;simp only[mW,cJ,Option.some.injEq]at h;exact⟨0,rfl,by simp[h]⟩
  simp only[mW,bX _ _ e]at h;obtain⟨j,rfl,hj⟩:=w4 r (i+1) t v h;exact⟨j+1,by omega,by simpa using hj⟩
theorem uQ(args:Array Value)(N:Nat)(h:Nat.ble args.size N=true):Fr N [] (mW 0 args.toList) {tmps:=args++Array.replicate (N-args.size) undef,defers:=[]}:=by
 have h:=Nat.le_of_ble_eq_true h;refine⟨rfl,by simp;omega,fun t v hv=>?_⟩;obtain⟨j,rfl,hj⟩:=w4 _ _ _ _ hv;have vu:args[j]? =some v:=by simpa using hj
 have bC:=(Array.getElem?_eq_some_iff.1 vu).1;rw[Nat.zero_add,Array.getElem?_append_left bC,vu]
abbrev Wd:Fence:=Fence.wide
theorem enter{f:FuncId}{fn:Func}{c:Code}{args:Array Value}(hf:P.funcs[f]? =some fn)(hb:fn.body=some c)(hN:fn.ntmps=N)(hle:Nat.ble args.size N=true)
  (h:W Wd P N [] c (bodyPost P fn R) (mW 0 args.toList) w):CallsIn Wd 0 P f args w R:=by
 refine callsIn_of_wp hf hb trivial ?_;rw[hN];exact h _ (uQ args N hle)
theorem pL{f:FuncId}{fn:Func}{c:Code}{args:Array Value}(hf:P.funcs[f]? =some fn)(hb:fn.body=some c)(hN:fn.ntmps=N)(hle:Nat.ble args.size N=true)
  (h:W Wd P N [] c (bodyPostM Wd 0 P fn R) (mW 0 args.toList) w):CallsIn Wd 0 P f args w R:=by
 refine callsIn_of_wp_marks hf hb trivial ?_;rw[hN];exact h _ (uQ args N hle)
theorem s3{fn:Func}(hr:fn.results=#[])(hR:R (.returned (.tuple #[])) w)(a:Act)(ha:Fr N [] l a):bodyPost P fn R .ret a w:=
 ⟨ha.defers,_,results_none hr _ _ _,hR⟩
theorem kD{fn:Func}(hr:fn.results=#[])(hR:R (.returned (.tuple #[])) w)(a:Act)(ha:Fr N [] l a):bodyPost P fn R .normal a w:=
 ⟨ha.defers,_,results_none hr _ _ _,hR⟩
theorem yr{t:Nat}{v:Value}(ha:Fr N ds l a)(h:lk l t=some v):a.tmps.getD t undef=v:=by simp[Array.getD_eq_getD_getElem?,ha.get t v h]
theorem aX{fn:Func}{t:Nat}{v:Value}(hr:fn.results=#[.tmp t])(hl:lk l t=some v)(hR:R (.returned v) w)(a:Act)(ha:Fr N [] l a):bodyPost P fn R .ret a w:=
 ⟨ha.defers,_,results_tmp hr _ _ _,by rw[yr ha hl];exact hR⟩
theorem rH{fn:Func}{t u:Nat}{v x:Value}(hr:fn.results=#[.tmp t,.tmp u])(hl:lk l t=some v)(wo:lk l u=some x)(hR:R (.returned (.tuple #[v,x])) w)(a:Act)(ha:Fr N [] l a):bodyPost P fn R .ret a w:=
 ⟨ha.defers,_,results_tmp2 hr _ _ _,by rw[yr ha hl,yr ha wo];exact hR⟩
theorem kC{fn:Func}{tb:Tb}(dq:tb.ok P)(i:Nat){t T b:Nat}{cs:List Value}{E:TypeId}{fz:Nat×Nat}{v:Value}(hr:fn.results=#[.cell t T])(hs:St g0 g L)(hi:L[i]? =some (.obj b (.cells cs.toArray E fz)))
  (hl:lk l t=some (.pointer (some ⟨b,0,none⟩))) (hv:vj tb T cs 0=some v) (hR:R (.returned v) g.w) (a:Act) (ha:Fr N [] l a):bodyPost P fn R .ret a g.w:=by
 refine⟨ha.defers,v,?_,hR⟩;have:=gm (P:=P) (w:=g.w) (off:=0) (o:=0) dq hv (je (hs.own i _ hi).2.1);simp only[Nat.add_zero]at this;simp[results,hr,ha.get t _ hl,asAddr,this]
def places(tb:Tb)(fs:List (TypeId×Nat)):List (Option (Nat×Nat)):=fs.map fun(t,off)=>(tl tb t).map fun i=>(off,i.size)
theorem aQ{tb:Tb}(dq:tb.ok P){t:Nat}{ti:TI}{fs:List (TypeId×Nat)}{parts:Array (Nat×Operand)}{vs:List (Nat×Value)}{cells:List Value}(ho:o.op= .build t parts)
  (hp:sY l (parts.toList.map (·.2))=some (vs.map (·.2))) (o9:parts.toList.map (·.1)=vs.map (·.1)) (hi:tl tb t=some ti) (hd:ti.desc= .struct fs) (pl:List (Nat×Nat)) (wi:places tb fs=pl.map some)
  (nM:Instr.fill (fun i=>pl.toArray[i]?) ti.zero.cells vs=some cells.toArray) (k:K (.agg cells.toArray) w):cD F P N ds o l w Q K:=by
 obtain⟨⟨dd,hu,he⟩,inf,e1,e2,e3,e4⟩:=dq.at hi;rw[hd]at he;obtain⟨Rc,rfl,rfl⟩:=KD.of_struct he;refine bO (fun c=>⟨by rw[ho];simp,by rw[ho];simp⟩) (fun a ha=>?_) k;have DP:List.map (fun x:Nat×Operand=>(x.fst,a.eval x.snd)) parts.toList=vs:=by
  have h2:=iH ha hp;rw[List.map_map]at h2;have h3:parts.toList.map (fun p=>(p.1,a.eval p.2))=(parts.toList.map (·.1)).zip (parts.toList.map (fun p=>a.eval p.2)):=by rw[List.zip_map']
  have h4:vs=(vs.map (·.1)).zip (vs.map (·.2)):=by rw[List.zip_map'];simp
  rw[h4,←o9,←h2];exact h3
 have IP: ∀(xs:List Field) (pl:List (Nat×Nat)),places tb (xs.map fun f=>(f.type,f.offset))=pl.map some→(xs.mapM fun f=>do pure (f.offset,←sizeOf f.type):Sem (List (Nat×Nat))).run P w= .ok pl w:=by
  intro xs
  induction xs with
  |nil=>intro pl h;cases pl with
   |nil=>rfl
   |cons _ _=>simp[places]at h
  |cons f xs ih=>
   intro pl h;cases pl with
   |nil=>simp[places]at h
   |cons q pl=>
    simp only[places,List.map_cons,List.cons.injEq]at h;obtain⟨h1,h2⟩:=h;cases hj:tl tb f.type with
    |none=>rw[hj]at h1;cases h1
    |some j=>
     rw[hj]at h1;simp only[Option.map_some,Option.some.injEq]at h1;obtain⟨_,TB,f1,f2,_⟩:=dq.at hj;have:=ih pl h2;simp only[List.mapM_cons,Sem.run_bind,sizeOf,typeInfo,run_program,Result.andThen_ok,f1,Sem.run_pure,f2]at this⊢;simp only[this,Result.andThen_ok,h1]
 have hm:=IP Rc.toList pl wi;have XP:(Rc.mapM fun f=>do pure (f.offset,←sizeOf f.type):Sem (Array (Nat×Nat))).run P w= .ok pl.toArray w:=by rw[Array.mapM_eq_mapM_toList];simp only[Sem.run_map,hm,Result.andThen_ok]
 have hz:(zeroValue t).run P w= .ok ti.zero w:=by simp[zeroValue,typeInfo,e1,e4]
 simp only[execOp,ho,Instr.build,Sem.run_bind,hz,Result.andThen_ok,run_underlying hu,XP,Array.toList_map,DP,nM];simp
theorem cA{tb:Tb}(dq:tb.ok P){t e n:Nat}{i j:TI}{x ix:Operand}{kk:IntKind}{q b p:Nat}(ho:o.op= .indexAddr t x ix)(hx:ev l x=some (.pointer (some ⟨b,p,none⟩)))(IH:ev l ix=some (.int kk (q:Int)))
  (hi:tl tb t=some i) (hd:i.desc= .arr n e) (hj:tl tb e=some j) (hq:q<n) (k:K (.pointer (some ⟨b,p+q*j.size,none⟩)) w):cD F P N ds o l w Q K:=by
 obtain⟨⟨dd,hu,he⟩,_⟩:=dq.at hi;rw[hd]at he;obtain rfl:=KD.A8 he;obtain⟨_,inf,e1,e2,_⟩:=dq.at hj;refine bO (fun c=>⟨by rw[ho];simp,by rw[ho];simp⟩) (fun a ha=>?_) k;have h1:(q:Int)<(n:Int):=by omega
 simp[execOp,ho,ha.ev hx,ha.ev IH,Instr.indexAt,asIntOf,run_underlying hu,Instr.sureAddr,hq,sizeOf,typeInfo,e1,e2,Addr.add_lit]
theorem KD.LS{d:TypeDesc}{e:TypeId}(h:KD.of d= .ptr e):d= .pointer e:=by cases d<;>simp only[KD.of,reduceCtorEq,KD.ptr.injEq]at h;rw[h]
theorem fW{tb:Tb}(dq:tb.ok P){t e t':Nat}{i:TI}{x y:Operand}{neg:Bool}{ad:Option Addr}{n c n' c':Nat}(ho:o.op= .binOp (if neg then .neq else .eql) t x y t')(hx:ev l x=some (.slice ad n c))(hy:ev l y=some (.slice none n' c'))
  (hi:tl tb t=some i) (hd:i.desc= .slice e) (k:K (.bool (neg !=ad.isNone)) w):cD F P N ds o l w Q K:=by
 obtain⟨⟨dd,hu,he⟩,_⟩:=dq.at hi;rw[hd]at he;obtain rfl:=KD.of_slice he;refine bO (fun c=>⟨by rw[ho];simp,by rw[ho];simp⟩) (fun a ha=>?_) k;have hg: ∀op,(eqGuard op t x y (.slice ad n c) (.slice none n' c')).run P w= .ok () w:=fun op=>by unfold eqGuard;split<;>rfl
 have hq: ∀d,(Op.equalIn (d+1) t (.slice ad n c) (.slice none n' c')).run P w= .ok ad.isNone w:=fun d=>by cases ad<;>simp[Op.equalIn,run_underlying hu]
 have heq:(Op.equal t (.slice ad n c) (.slice none n' c')).run P w= .ok ad.isNone w:=hq 9999;cases neg<;>simp[execOp,ho,ha.ev hx,ha.ev hy,hg,binOp,heq]
theorem dw{tb:Tb}(dq:tb.ok P){t e t':Nat}{i:TI}{x y:Operand}{neg:Bool}{ad:Option Addr}(ho:o.op= .binOp (if neg then .neq else .eql) t x y t')(hx:ev l x=some (.pointer ad))(hy:ev l y=some (.pointer none))
  (hi:tl tb t=some i) (hd:i.desc= .ptr e) (k:K (.bool (neg !=ad.isNone)) w):cD F P N ds o l w Q K:=by
 obtain⟨⟨dd,hu,he⟩,_⟩:=dq.at hi;rw[hd]at he;obtain rfl:=KD.LS he;refine bO (fun c=>⟨by rw[ho];simp,by rw[ho];simp⟩) (fun a ha=>?_) k;have hg: ∀op,(eqGuard op t x y (.pointer ad) (.pointer none)).run P w= .ok () w:=fun op=>by unfold eqGuard;split<;>rfl
 have hq: ∀d,(Op.equalIn (d+1) t (.pointer ad) (.pointer none)).run P w= .ok ad.isNone w:=fun d=>by cases ad<;>simp[Op.equalIn,run_underlying hu]
 have heq:(Op.equal t (.pointer ad) (.pointer none)).run P w= .ok ad.isNone w:=hq 9999;cases neg<;>simp[execOp,ho,ha.ev hx,ha.ev hy,hg,binOp,heq]
def cF(g:G)(R:G→Value→Prop):Ending→World→Prop:=fun e w'=> ∃g' v,g'.w=w'∧a_ g g'∧e= .returned v∧R g' v
theorem St.ret{R:G→Value→Prop}{v:Value}(hs:St g0 g L)(h:R g v):cF g0 R (.returned v) g.w:=⟨g,v,rfl,hs.nC,rfl,h⟩
theorem au{R:G→Value→Prop}{f:FuncId}(hc:ag P f)(hF: ∀f,F.fn f)(uL:F.depth=none){x:Operand}{args:Array Operand}{ts:Array TypeId}{first captured:Array Value}{vs aa:List Value}
  (ho:o.op= .call {callee:=.value x,args,argTypes:=ts}) (hx:ev l x=some (.func (.func f) first captured)) (ha:sY l args.toList=some vs) (has:first.toList++vs++captured.toList=aa)
  (h:CallsIn F 0 P f aa.toArray g.w (cF g R)) (k: ∀g' v,a_ g g'→R g' v→K v g'.w):cD F P N ds o l g.w Q K:=
 n5 hc hF uL ho hx ha has (CallsIn.mono h fun _ _ ⟨g',v,hw,hf,he,hr⟩=>⟨v,he,hw▸k g' v hf hr⟩)
end Go.K
namespace Go.K
open Go Go.RowKit
variable {F:Fence} {P:Program} {N:Nat} {ds:List Deferred} {l l':Env} {a:Act} {w:World} {Q:Exit→Act→World→Prop} {ops:Array Oper} {os:List Oper} {o:Oper}
variable {g0 g:G} {L:List cS} {K:Value→World→Prop} {R:Ending→World→Prop}
def iE(P:Program)(fv:Value)(args:List Value)(w:World)(R:Ending→World→Prop):Prop:=
 match fv with
 | .func (.func f) first captured=>ag P f∧CallsIn Wd 0 P f (first.toList++args++captured.toList).toArray w R
 | .func (.yield l) first _=> ∃fn tmps assign body,(Instr.yield l (first++args.toArray)).run P w= .ok (.round l fn tmps assign body) w∧RoundIn Wd 0 P l fn tmps assign body w R
 |_=>False
theorem iE.mono{fv:Value}{args:List Value}{R R':Ending→World→Prop}(h:iE P fv args w R)(hr: ∀e w',R e w'→R' e w'):iE P fv args w R':=by
 unfold iE at h⊢;split
 ·simp only at h;exact⟨h.1,h.2.mono hr⟩
 ·simp only at h;obtain⟨fn,tmps,aa,bo,h1,h2⟩:=h;exact⟨fn,tmps,aa,bo,h1,h2.mono hr⟩
 rename_i h1 h2;split at h
 ·exact(h1 _ _ _ rfl).elim
 ·exact(h2 _ _ _ rfl).elim
 exact h.elim
theorem CallsIn.kT{f:FuncId}{args:Array Value}(hF:F.fn=Wd.fn)(hd:F.depth=none)(ha:F.alive=false)(h:CallsIn Wd 0 P f args w R):CallsIn F 0 P f args w R:=by obtain⟨fn,dep,al,ro⟩:=F;simp only at hF hd ha;subst hF;subst hd;subst ha;exact h
theorem RoundIn.kT{k:Nat}{f:FuncId}{tmps:Array Value}{aa bo:Code}(hF:F.fn=Wd.fn)(hd:F.depth=none)(ha:F.alive=false)(h:RoundIn Wd 0 P k f tmps aa bo w R):RoundIn F 0 P k f tmps aa bo w R:=by obtain⟨fn,dep,al,ro⟩:=F;simp only at hF hd ha;subst hF;subst hd;subst ha;exact h
theorem eo(hF:F.fn=Wd.fn)(hd:F.depth=none)(A5:F.alive=false){x:Operand}{args:Array Operand}{ts:Array TypeId}{fv:Value}{vs:List Value}
  (ho:o.op= .call {callee:=.value x,args,argTypes:=ts}) (hx:ev l x=some fv) (ha:sY l args.toList=some vs)
  (h:iE P fv vs w fun e w'=> ∃v,e= .returned v∧K v w'):cD F P N ds o l w Q K:=by
 unfold iE at h;split at h
 ·rename_i f first captured
  exact n5 h.1 (by intro f;rw[hF];trivial) hd ho hx ha rfl (CallsIn.kT hF hd A5 h.2)
 ·rename_i k first captured
  obtain⟨fn,tmps,aa,bo,h1,h2⟩:=h;intro a Ep;unfold Oper.wpIn;refine⟨fun f _=>by rw[hF];trivial,?_⟩;have pk:args.map a.eval=vs.toArray:=by apply Array.ext';simpa using iH Ep ha
  rw[Oper.semAt_eq _ _ _ (fun c e=>by rw[ho]at e;cases e)];have iU:(execOp a.eval o).run P w= .ok (.round k fn tmps aa bo) w:=by simp only[execOp,ho,Sem.run_bind,resolve,Ep.ev hx,Deferred.ofValue,Sem.run_pure,Result.andThen_ok,invoke,pk];exact h1
  rw[iU];refine⟨fun h=>(by rw[hd]at h;cases h),?_⟩;refine RoundIn.mono (RoundIn.kT hF hd A5 h2) fun e w' ⟨v,he,hk⟩=>?_;subst he;exact⟨v,rfl,hk⟩
 exact h.elim
def tT{α:Type}(P:Program)(jW:FuncId)(eI:Array Value)(fY:α→List Value)(xs:List α)(g:G):Prop:=
 ∀(g1:G),g.le g1→ ∀(yv:Value) (J Jx:List α→G→Prop),(∀pre g g',a_ g g'→J pre g→J pre g')→(∀pre g g',a_ g g'→Jx pre g→Jx pre g')→
  (∀pre x rest g2,xs=pre++x::rest→g1.le g2→J pre g2→iE P yv (fY x) g2.w fun e w'=> ∃g3 b,g3.w=w'∧e= .returned (.bool b)∧g2.le g3∧(b=true→J (pre++[x]) g3)∧(b=false→Jx (pre++[x]) g3))→
  J [] g1→CallsIn Wd 0 P jW (yv::eI.toList).toArray g1.w fun e w'=> ∃g2 v,g2.w=w'∧e= .returned v∧g1.le g2∧(J xs g2∨ ∃pre,pre<+:xs∧Jx pre g2)
theorem tT.mono{α:Type}{jW:FuncId}{eI:Array Value}{fY:α→List Value}{xs:List α}{g g':G}(h:tT P jW eI fY xs g)(hle:g.le g'):tT P jW eI fY xs g':=
 fun g1 h1=>h g1 (hle.trans h1)
def oe:List Tmp→List Value→Env→Env
 |t::ts,v::vs,l=>oe ts vs ((t,v)::l)
 |_,_,l=>l
theorem yg: ∀(ts:List Tmp) (vs:List Value) (l:Env) (tm:Array Value),(ts.all fun t=>Nat.blt t N)=true→Fr N [] l {tmps:=tm,defers:=[]}→
  Fr N [] (oe ts vs l) {tmps:=(ts.zip vs).foldl (fun tmps (t,a)=>tmps.setIfInBounds t a) tm,defers:=[]}
 |[],vs,l,tm,_,h=>by cases vs<;>exact h
 |t::ts,[],l,tm,_,h=>h
 |t::ts,v::vs,l,tm,hb,h=>by simp only[List.all_cons,Bool.and_eq_true]at hb;refine yg ts vs ((t,v)::l) (tm.setIfInBounds t v) hb.2 ?_;exact h.put (d:=some t) hb.1 v
def jg(fn:FuncId)(tmps:Array Value)(ps:Array Tmp)(assign body:Code)(D:Nat)(st:LoopState)(T0:Option Code):Obj:=
 .loop {state:=st,pending:=T0,fn,tmps,params:=ps,assign,body,defers:=D}
abbrev fK:Obj:=.deferred (some [])
def By(I:List cS→G→Prop)(Ix:Code→List cS→G→Prop)(g0 gr:G)(lp D:Nat)(ro:LoopState→Obj):Exit→Act→World→Prop
 | .normal,_,w=> ∃L' g',g'.w=w∧St g0 g' (.obj lp (ro .busy):: .obj D fK::L')∧gr.le g'∧I L' g'
 | .ret,_,w=> ∃L' g',g'.w=w∧St g0 g' (.obj lp (ro .busy):: .obj D fK::L')∧gr.le g'∧Ix .ret L' g'
 | .exit id,_,w=> ∃L' g',g'.w=w∧St g0 g' (.obj lp (ro .busy):: .obj D fK::L')∧gr.le g'∧Ix (.exit id) L' g'
 |_,_,_=>False
def G.po(g:G)(b:Nat)(o:Obj):G:=⟨g.w.putObj b o,g.im,fun x h=>by have:=g.lt x h;simpa using this⟩
theorem yu(w:World)(b:Nat)(o:Obj):w.grownBy (w.putObj b o) (some b):=
 ⟨rfl,rfl,rfl,by simp,fun k _ hk=>World.putObj_heap_other (fun e=>hk (congrArg some e))⟩
theorem St.po{i b:Nat}{o o':Obj}(hs:St g0 g L)(hi:L[i]? =some (.obj b o)):St g0 (g.po b o') (L.set i (.obj b o'))∧g.le (g.po b o'):=by have hh:=(hs.own i _ hi).2.1;exact hs.Hn hi (yu _ _ _) (fun _ _=>Iff.rfl) ⟨(hs.own i _ hi).1,World.putObj_heap_same (Array.getElem?_eq_some_iff.1 hh).1,(hs.own i _ hi).2.2⟩ (fun b' sZ=> .inl sZ)
theorem xB{α:Type}{jW:FuncId}{eI:Array Value}{fY:α→List Value}{xs:List α}{f:Operand}{ps:Array Tmp}{assign body:Code}
  (hs:St g0 g L) (hf:ev l f=some (.func (.func jW) #[] eI)) (n4:ag P jW) (rE:tT P jW eI fY xs g) (lL:(ps.toList.all fun t=>Nat.blt t N)=true) (Qc: ∀x,(fY x).length=ps.size)
  (I:List α→List cS→G→Prop) (Ix:Code→List α→List cS→G→Prop) (hI: ∀pre L g g',g.le g'→I pre L g→I pre L g') (AL: ∀c pre L g g',g.le g'→Ix c pre L g→Ix c pre L g')
  (h0:I [] L g) (la:α→Env)
  (qQ: ∀x ro w,W {Wd with round:=some ro} P N [] assign (Exit.then (fun a w'=>w'=w∧Fr N [] (la x) a) (fun _ _ _=>False)) (oe ps.toList (fY x) l) w)
  (qR: ∀lp D ro pre x rest gr Lr,xs=pre++x::rest→g.le gr→St g0 gr (.obj lp (ro .busy):: .obj D fK::Lr)→I pre Lr gr→
   W {Wd with round:=some lp} P N [] body (By (I (pre++[x])) (fun c=>Ix c (pre++[x])) g0 gr lp D ro) (la x) gr.w)
  (iT: ∀lp D o Lr ge,g.le ge→St g0 ge (.obj lp o:: .obj D fK::Lr)→I xs Lr ge→ ∀a,Fr N (⟨.collected D,#[]⟩::ds) l a→Q .normal a ge.w)
  (zU: ∀c lp D o pre Lr ge,pre<+:xs→g.le ge→St g0 ge (.obj lp o:: .obj D fK::Lr)→Ix c pre Lr ge→W Wd P N (⟨.collected D,#[]⟩::ds) c Q l ge.w):
  W Wd P N ds (.rangeFunc f ps assign body) Q l g.w:=by
 intro a ha;refine wpIn_rangeFunc fun fn _=>?_;let ro:LoopState→Obj:=fun st=>jg fn a.tmps ps assign body g.w.heap.size st none
 have nz:=hs.al fK;have aT:=nz.1.al (ro .ready);have cP:(g.al fK).w.heap.size=g.w.heap.size+1:=by simp[G.al]
 let g2:=(g.al fK).al (ro .ready)
 have tg:g.le g2:=nz.2.trans aT.2;refine⟨g.w.heap.size+1,[⟨.collected g.w.heap.size,#[]⟩],g2.w,⟨.fn (.func jW) eI,#[.func (.yield (g.w.heap.size+1)) #[] #[]]⟩,g2.w,jW,(.func (.yield (g.w.heap.size+1)) #[] #[]::eI.toList).toArray,g2.w,?_,?_,fun _ _=>trivial,?_,fun h=>(by cases h),?_⟩
 ·exact run_enterLoop_outer fn a.tmps ps assign body
 ·simp only[resolve,ha.ev hf,Deferred.ofValue];simp[Act.eval,g2]
 ·have e:#[Value.func (.yield (g.w.heap.size+1)) #[] #[]]++eI=(.func (.yield (g.w.heap.size+1)) #[] #[]::eI.toList).toArray:=by apply Array.ext';simp
  rw[←e];exact h_ n4 _
 --yZ uO qL,with Qd holds CJ yZ rounds
 have Bz:St g0 g2 (.obj (g.w.heap.size+1) (ro .ready):: .obj g.w.heap.size fK::L):=by have:=aT.1;rw[cP]at this;exact this
 refine CallsIn.mono (rE g2 tg (.func (.yield (g.w.heap.size+1)) #[] #[])
  (fun pre g'=>g.le g'∧ ∃Lr,St g0 g' (.obj (g.w.heap.size+1) (ro .ready):: .obj g.w.heap.size fK::Lr)∧I pre Lr g')
  (fun pre g'=>g.le g'∧ ∃c Lr,St g0 g' (.obj (g.w.heap.size+1) (jg fn a.tmps ps assign body g.w.heap.size .done (some c)):: .obj g.w.heap.size fK::Lr)∧Ix c pre Lr g')
  (fun pre ga gb hf ⟨h1,Lr,h2,h3⟩=>⟨h1.trans hf.le,Lr,h2.call hf,hI _ _ _ _ hf.le h3⟩)
  (fun pre ga gb hf ⟨h1,c,Lr,h2,h3⟩=>⟨h1.trans hf.le,c,Lr,h2.call hf,AL _ _ _ _ _ hf.le h3⟩) ?_ ⟨tg,L,Bz,hI _ _ _ _ tg h0⟩) ?_
 ·--one round
  rintro pre x rest gp jf Qe ⟨pW,Lr,dH,hi⟩;have mU:gp.w.heap[g.w.heap.size+1]? =some (ro .ready):=(dH.own 0 _ rfl).2.1;refine⟨fn,_,assign,body,run_yield mU (by simpa [jg]using Qc x),?_⟩;refine roundIn_of_wpIn trivial ?_;have Bv:Fr N [] (oe ps.toList (fY x) l) {tmps:=(ps.zip (#[]++(fY x).toArray)).foldl (fun tmps (x:Nat×Value)=>tmps.setIfInBounds x.1 x.2) a.tmps,defers:=[]}:=by
   have h:=yg (N:=N) ps.toList (fY x) l a.tmps lL ⟨rfl,ha.size,ha.get⟩;have e:(ps.zip (#[]++(fY x).toArray)).foldl (fun tmps (x:Nat×Value)=>tmps.setIfInBounds x.1 x.2) a.tmps=(ps.toList.zip (fY x)).foldl (fun tmps (x:Nat×Value)=>tmps.setIfInBounds x.1 x.2) a.tmps:=by rw[←Array.foldl_toList];simp
   rw[e];exact h
  refine Go.wpIn_mono (qQ x (g.w.heap.size+1) gp.w _ Bv) fun e a1 w1 he=>?_;cases e with
  |normal=>
   obtain⟨rfl,yh⟩:=he;have hb:=dH.po (i:=0) (o':=ro .busy) rfl;refine⟨(gp.po (g.w.heap.size+1) (ro .busy)).w,run_beginRound mU rfl,?_⟩;have Gf:St g0 (gp.po (g.w.heap.size+1) (ro .busy)) (.obj (g.w.heap.size+1) (ro .busy):: .obj g.w.heap.size fK::Lr):=hb.1;refine Go.wpIn_mono (qR _ _ ro pre x rest _ Lr jf (pW.trans hb.2) Gf (hI _ _ _ _ hb.2 hi) a1 yh) fun e a2 w2 he=>?_;cases e with
   |normal=>
    obtain⟨L',g',rfl,j7,fw,hi'⟩:=he;have j8:g'.w.heap[g.w.heap.size+1]? =some (ro .busy):=(j7.own 0 _ rfl).2.1;have hp:=j7.po (i:=0) (o':=ro .ready) rfl;refine⟨_,_,run_endRound none j8,g'.po (g.w.heap.size+1) (ro .ready),true,rfl,rfl,(hb.2.trans fw).trans hp.2,fun _=>⟨((pW.trans hb.2).trans fw).trans hp.2,L',hp.1,hI _ _ _ _ hp.2 hi'⟩,fun h=>(by cases h)⟩
   |ret=>
    obtain⟨L',g',rfl,j7,fw,hi'⟩:=he;have j8:g'.w.heap[g.w.heap.size+1]? =some (ro .busy):=(j7.own 0 _ rfl).2.1;have hp:=j7.po (i:=0) (o':=jg fn a.tmps ps assign body g.w.heap.size .done (some .ret)) rfl;refine⟨_,_,run_endRound (some .ret) j8,g'.po (g.w.heap.size+1) (jg fn a.tmps ps assign body g.w.heap.size .done (some .ret)),false,rfl,rfl,(hb.2.trans fw).trans hp.2,fun h=>(by cases h),
     fun _=>⟨((pW.trans hb.2).trans fw).trans hp.2,.ret,L',hp.1,AL _ _ _ _ _ hp.2 hi'⟩⟩
   |exit id=>
    obtain⟨L',g',rfl,j7,fw,hi'⟩:=he;have j8:g'.w.heap[g.w.heap.size+1]? =some (ro .busy):=(j7.own 0 _ rfl).2.1;have hp:=j7.po (i:=0) (o':=jg fn a.tmps ps assign body g.w.heap.size .done (some (.exit id))) rfl;refine⟨_,_,run_endRound (some (.exit id)) j8,g'.po (g.w.heap.size+1) (jg fn a.tmps ps assign body g.w.heap.size .done (some (.exit id))),false,rfl,rfl,(hb.2.trans fw).trans hp.2,fun h=>(by cases h),
     fun _=>⟨((pW.trans hb.2).trans fw).trans hp.2,.exit id,L',hp.1,AL _ _ _ _ _ hp.2 hi'⟩⟩
   |goto t=>exact he.elim
   |panic c=>exact he.elim
   |outgrown=>exact he.elim
  |exit id=>exact he.elim
  |goto t=>exact he.elim
  |ret=>exact he.elim
  |panic c=>exact he.elim
  |outgrown=>exact he.elim
 --yZ iterator has ended
 rintro e w' ⟨ge,v,rfl,rfl,fw,h⟩;have zV:Fr N (⟨.collected g.w.heap.size,#[]⟩::ds) l {a with defers:=[⟨.collected g.w.heap.size,#[]⟩]++a.defers}:=⟨by simp[ha.defers],ha.size,ha.get⟩
 rcases h with⟨hle,Lr,dH,hi⟩|⟨pre,gj,hle,c,Lr,dH,hi⟩
 ·have mU:ge.w.heap[g.w.heap.size+1]? =some (ro .ready):=(dH.own 0 _ rfl).2.1;have hp:=dH.po (i:=0) (o':=jg fn a.tmps ps assign body g.w.heap.size .exhausted none) rfl;exact⟨none,_,run_endLoop mU (by simp),iT _ _ _ Lr (ge.po _ _) (hle.trans hp.2) hp.1 (hI _ _ _ _ hp.2 hi) _ zV⟩
 have mU:ge.w.heap[g.w.heap.size+1]? =some (jg fn a.tmps ps assign body g.w.heap.size .done (some c)):=(dH.own 0 _ rfl).2.1;have hp:=dH.po (i:=0) (o':=jg fn a.tmps ps assign body g.w.heap.size .exhausted (some c)) rfl;exact⟨some c,_,run_endLoop mU (by simp),zU c _ _ _ pre Lr (ge.po _ _) gj (hle.trans hp.2) hp.1 (AL _ _ _ _ _ hp.2 hi) _ zV⟩
theorem ya{fn:Func}{tmps:Array Value}{D i:Nat}{ds:List Deferred}(hs:St g0 g L)(hi:L[i]? =some (.obj D fK))
  (h:LeavesInM Wd 0 P fn tmps R ds .returning (g.po D (.deferred none)).w):LeavesInM Wd 0 P fn tmps R (⟨.collected D,#[]⟩::ds) .returning g.w:=
 ⟨by simp,.inl ⟨D,_,rfl,run_takeDeferred (hs.own i _ hi).2.1,h⟩⟩
end Go.K
namespace Go.K
open Go Go.RowKit
variable {F:Fence} {P:Program} {N:Nat} {ds:List Deferred} {l l':Env} {a:Act} {w:World} {Q:Exit→Act→World→Prop} {ops:Array Oper} {os:List Oper} {o:Oper}
variable {g0 g:G} {L:List cS} {K:Value→World→Prop}
def rep(d:Nat)(v:Value):Env→Env
 |[]=>[]
 |(k,u)::r=>bif Nat.beq k d then(k,v)::r else(k,u)::rep d v r
theorem BK{d:Nat}{v:Value}: ∀(l:Env) (t:Nat) (u:Value),lk (rep d v l) t=some u→(t=d∧u=v)∨(t≠d∧lk l t=some u)
 |[],t,u,h=>by simp[rep,lk]at h
 |(k,x)::r,t,u,h=>by
  simp only[rep]at h;cases hk:Nat.beq k d with
  |true=>
   have TQ:=Nat.eq_of_beq_eq_true hk;subst TQ;rw[hk]at h;simp only[cond_true]at h;by_cases e:k=t
   ·subst e;rw[cJ]at h;exact .inl ⟨rfl,(Option.some.inj h).symm⟩
   rw[bX _ _ e]at h;exact .inr ⟨fun q=>e q.symm,by rw[bX _ _ e];exact h⟩
  |false=>
   rw[hk]at h;simp only[cond_false]at h;by_cases e:k=t
   ·subst e;rw[cJ]at h;refine .inr ⟨fun q=>?_,by rw[cJ];exact h⟩;subst q;simp at hk
   rw[bX _ _ e]at h;rcases BK r t u h with h'|⟨h1,h2⟩
   ·exact .inl h'
   exact .inr ⟨h1,by rw[bX _ _ e];exact h2⟩
theorem w5{d:Nat}{v x:Value}: ∀(l:Env),lk l d=some x→lk (rep d v l) d=some v
 |[],h=>by simp[lk]at h
 |(k,y)::r,h=>by
  simp only[rep];cases hk:Nat.beq k d with
  |true=>
   have:=Nat.eq_of_beq_eq_true hk;subst this;simp[cJ]
  |false=>
   have fB:k≠d:=fun q=>by subst q;simp at hk
   rw[bX _ _ fB]at h;simp only[cond_false];rw[bX _ _ fB];exact w5 r h
theorem rN{d:Nat}{v:Value}: ∀(l:Env) (t:Nat),t≠d→lk (rep d v l) t=lk l t
 |[],t,_=>rfl
 |(k,y)::r,t,h=>by
  simp only[rep];cases hk:Nat.beq k d with
  |true=>
   have:=Nat.eq_of_beq_eq_true hk;subst this;simp only[cond_true];rw[bX _ _ (fun q=>h q.symm),bX _ _ (fun q=>h q.symm)]
  |false=>
   simp only[cond_false];by_cases e:k=t
   ·subst e;rw[cJ,cJ]
   rw[bX _ _ e,bX _ _ e];exact rN r t h
theorem Fr.rep{d:Nat}{v:Value}(ha:Fr N ds l a)(h:lk l d=some v){v':Value}(e:v=v'):Fr N ds (rep d v' l) a:=by
 refine⟨ha.defers,ha.size,fun t u hu=>?_⟩;rcases BK l t u hu with⟨rfl,rfl⟩|⟨_,h2⟩
 ·subst e;exact ha.get _ _ h
 exact ha.get _ _ h2
theorem Fr.Qr{d:Nat}{v v':Value}(ha:Fr N ds (Go.K.rep d v' l) a)(h:lk l d=some v)(e:v=v'):Fr N ds l a:=by
 refine⟨ha.defers,ha.size,fun t u hu=>?_⟩;by_cases J5:t=d
 ·subst J5;rw[h]at hu;obtain rfl:=Option.some.inj hu;subst e;exact ha.get _ _ (w5 l h)
 exact ha.get _ _ (by rw[rN l t J5];exact hu)
def uZ(ops:Array Oper):Env→List Oper→Option Env
 |l,[]=>some l
 |l,o::os=>
  match mx ops l o.guard,o.dst with
  |some false,some d=>uZ ops ((d,undef)::l) os
  |_,_=>none
theorem u0(hF: ∀f,F.fn f): ∀(o1:List Oper) {l l':Env} {a:Act} {w:World},uZ ops l o1=some l'→(o1.all fun o=>MJ N o.dst)=true→Fr N ds l a→
  (∀a',Fr N ds l' a'→(∀t,(∀o∈o1,o.dst≠some t)→a'.tmps[t]? =a.tmps[t]?)→wpListIn F 0 P ops Q os a' w)→wpListIn F 0 P ops Q (o1++os) a w
 |[],l,l',a,w,hp,_,ha,h=>by simp only[uZ,Option.some.injEq]at hp;subst hp;exact h a ha fun _ _=>rfl
 |o::o1,l,l',a,w,hp,hd,ha,h=>by
  simp only[uZ]at hp;split at hp
  ·rename_i d hg rr;simp only[List.all_cons,Bool.and_eq_true]at hd;have nB:=ha.put hd.1 undef;rw[rr]at nB;simp only[List.cons_append,wpListIn,jy hg ha];refine⟨fun f _=>hF f,?_⟩;rw[rr];refine u0 hF o1 hp hd.2 nB fun a' eF hk=>h a' eF fun t ht=>?_;rw[hk t (fun o' pn=>ht o' (by simp[pn]))];simp only[Act.put];rw[Array.getElem?_setIfInBounds_ne (fun e=>ht o (by simp) (by rw[rr,e]))]
  cases hp
theorem cp(n:Nat){want b x:Bool}{d dp da:Nat}{ty:TypeId}{pos:String}{af:Array Edge}{gp:Option (Nat×Bool)}{A B:Operand}(hF: ∀f,F.fn f){l1:Env}
  (Kf:os[n]? =some ⟨some dp,.pick (.tmp d) A B,ty,pos,af,gp⟩) (hl:lk l d=some (.bool b)) (PM:Nat.blt dp N=true) (Hq:mx ops l gp=some true)
  (AI:(want=true∧A= .tmp da∧B= .const (.bool false))∨(want=false∧A= .const (.bool true)∧B= .tmp da)) (Rj:lk l da=none)
  (Qs:uZ ops (rep d (.bool (!want)) l) (os.take n)=some l1) (lT:((os.take n).all fun o=>MJ N o.dst)=true) (LU:((os.take n).all fun o=>match o.dst with|some t=>(lk l t).isNone|none=>false)=true)
  (h1:b=want→ ∀Q':Exit→Act→World→Prop,(∀g' a,a_ g g'→Fr N ds ((da,.bool x)::rep d (.bool want) l) a→Q' .normal a g'.w)→WL F P N ds ops Q' (os.take n) (rep d (.bool want) l) g.w)
  (k: ∀g',a_ g g'→WL F P N ds ops Q (os.drop (n+1)) ((dp,.bool (bif want then b&&x else b||x))::l) g'.w):WL F P N ds ops Q os l g.w:=by
 have Ra:os=os.take n++(⟨some dp,.pick (.tmp d) A B,ty,pos,af,gp⟩::os.drop (n+1)):=by have bC:=(List.getElem?_eq_some_iff.1 Kf).1;have h2:=(List.getElem?_eq_some_iff.1 Kf).2;rw[←h2,←List.drop_eq_getElem_cons bC,List.take_append_drop]
 intro a ha;have CU: ∀(g':G) (a':Act),a_ g g'→Fr N ds l a'→(execOp a'.eval ⟨some dp,.pick (.tmp d) A B,ty,pos,af,gp⟩).run P g'.w= .ok (.value (.bool (bif want then b&&x else b||x))) g'.w→
   wpListIn F 0 P ops Q (⟨some dp,.pick (.tmp d) A B,ty,pos,af,gp⟩::os.drop (n+1)) a' g'.w:=by
  intro g' a' hf eF iU;simp only[wpListIn,jy (o:=⟨some dp,.pick (.tmp d) A B,ty,pos,af,gp⟩) Hq eF,if_true];unfold Oper.wpIn;refine⟨fun f _=>hF f,?_⟩;rw[Oper.semAt_eq _ _ _ (fun c e=>by cases e),iU];exact k g' hf _ (eF.put (d:=some dp) PM _)
 by_cases hb:b=want
 ·subst hb;have T1:=h1 rfl (Exit.then (fun a' w'=> ∃g',a_ g g'∧g'.w=w'∧Fr N ds ((da,.bool x)::rep d (.bool b) l) a') Q) (fun g' a' hf eF=>⟨g',hf,rfl,eF⟩);refine Lz _ Ra (fun a' eF=>T1 a' (eF.rep hl rfl)) ?_ a ha;rintro a' _ ⟨g',hf,rfl,eF⟩;have Qt:a'.eval (.tmp da)= .bool x:=eF.ev (x:=.tmp da) (cJ _ _ _);have Qu:Fr N ds l a':=by
   refine Fr.Qr (d:=d) (v:=.bool b) (v':=.bool b) ⟨eF.defers,eF.size,fun t u hu=>?_⟩ hl rfl;refine eF.get t u ?_;rw[bX _ _ (fun e=>?_)]
   ·exact hu
   subst e;rcases BK l da u hu with⟨h1,_⟩|⟨_,h2⟩
   ·rw[h1,hl]at Rj;cases Rj
   rw[h2]at Rj;cases Rj
  refine CU g' a' hf Qu ?_;have Qv:a'.eval (.tmp d)= .bool b:=Qu.ev (x:=.tmp d) hl;rcases AI with⟨rfl,rfl,rfl⟩|⟨rfl,rfl,rfl⟩
  ·simp only[execOp,Qv,Qt,asBool,Sem.run_bind,Sem.run_pure,Result.andThen_ok];rfl
  simp only[execOp,Qv,Qt,asBool,Sem.run_bind,Sem.run_pure,Result.andThen_ok];rfl
 have T2:b= !want:=(show ∀b want:Bool,¬b=want→b= !want from fun b want=>by cases b<;>cases want<;>simp) b want hb;rw[Ra];refine u0 hF (os.take n) Qs lT (ha.rep hl (by rw[T2])) fun a' eF hk=>?_;have Qu:Fr N ds l a':=by
  have Qw:a'.defers=ds∧a'.tmps.size=N:=⟨eF.defers,eF.size⟩
  refine⟨Qw.1,Qw.2,fun t u hu=>?_⟩;rw[hk t (fun o ho e=>?_)]
  ·exact ha.get t u hu
  have:=(List.all_eq_true.1 LU) o ho;simp only[e]at this;rw[hu]at this;cases this
 refine CU g a' (a_.refl _) Qu ?_;have Qv:a'.eval (.tmp d)= .bool b:=Qu.ev (x:=.tmp d) hl;rcases AI with⟨rfl,rfl,rfl⟩|⟨rfl,rfl,rfl⟩
 ·subst T2;simp only[execOp,Qv,asBool,Sem.run_bind,Sem.run_pure,Result.andThen_ok];rfl
 subst T2;simp only[execOp,Qv,asBool,Sem.run_bind,Sem.run_pure,Result.andThen_ok];rfl
theorem kI{t:Nat}{k:IntKind}{m n:Int}(h:lk l t=some (.int k m))(e:m=n):lk l t=some (.int k n):=e▸h
theorem kB{t:Nat}{m n:Bool}(h:lk l t=some (.bool m))(e:m=n):lk l t=some (.bool n):=e▸h
theorem kV{t:Nat}{u v:Value}(h:lk l t=some u)(e:u=v):lk l t=some v:=e▸h
theorem wr{n:Int}(h1: -9223372036854775808≤n)(h2:n≤9223372036854775807):IntKind.i64.wrap n=n:=by exact IntWalk.i64_in n ⟨h1,h2⟩
theorem kz{t:Nat}{u:Value}(v:Value)(hl:lk l t=some u)(e:u=v)(h:WL F P N ds ops Q os ((t,v)::l) w):WL F P N ds ops Q os l w:=by
 refine fun a ha=>h a (ha.sub fun s x hs=>?_);by_cases q:t=s
 ·subst q;rw[cJ]at hs;rw[hl,e];exact hs
 rw[bX _ _ q]at hs;exact hs
end Go.K
namespace Go.K
open Go Go.RowKit
variable {F:Fence} {P:Program} {N:Nat} {ds:List Deferred} {l l':Env} {a:Act} {w:World} {Q:Exit→Act→World→Prop} {ops:Array Oper} {os:List Oper} {o:Oper}
variable {g0 g:G} {L:List cS} {K:Value→World→Prop}
theorem St.ba(hs:St g0 g L){i b:Nat}{cs:List Value}{E:TypeId}{fz:Nat×Nat}(hi:L[i]? =some (.obj b (.cells cs.toArray E fz))):
  ∃g',g'.w=g.w∧St g0 g' (L.eraseIdx i)∧g.le g'∧EP g' b 0 cs:=by
 refine⟨g.fz _ (fun b hb=>((hs.own i _ hi).lt b hb).2.1),rfl,hs.fz hi,G.qt g _ _,.inr rfl,fun j y hy=>?_⟩;have h:=(hs.own i _ hi).2.1;show g.w.cell? _=_;simp[World.cell?,h,hy]
theorem St.cK{α:Type}[El α](hs:St g0 g L){i:Nat}{e:TypeId}{v:Value}{n:Nat}{cells:List Value}{xs:List α}(hi:L[i]? =some (.row e (El.k α) v n cells))(hr:cG g cells xs):
  ∃g',g'.w=g.w∧St g0 g' (L.eraseIdx i)∧g.le g'∧Rs g' v xs:=by
 refine⟨g.fz _ (fun b hb=>((hs.own i _ hi).lt b hb).2.1),rfl,hs.fz hi,G.qt g _ _,?_⟩;exact(hs.own i _ hi).1.rs hr (G.qt g _ _) fun b hb=>⟨.inr hb,rfl⟩
theorem eE{R:G→Value→Prop}(hF:F.fn=Wd.fn)(hd:F.depth=none)(A5:F.alive=false){x:Operand}{args:Array Operand}{ts:Array TypeId}{fv:Value}{vs:List Value}
  (ho:o.op= .call {callee:=.value x,args,argTypes:=ts}) (hx:ev l x=some fv) (ha:sY l args.toList=some vs)
  (h:iE P fv vs g.w (cF g R)) (k: ∀g' v,a_ g g'→R g' v→K v g'.w):cD F P N ds o l g.w Q K:=
 eo hF hd A5 ho hx ha (h.mono fun _ _ ⟨g',v,hw,hf,he,hr⟩=>⟨v,he,hw▸k g' v hf hr⟩)
theorem cW{R:Ending→World→Prop}{f:FuncId}{first captured:Array Value}{args aa:List Value}(hc:ag P f)(has:first.toList++args++captured.toList=aa)(h:CallsIn Wd 0 P f aa.toArray w R):
  iE P (.func (.func f) first captured) args w R:=⟨hc,by rw[has];exact h⟩
def lQ{α:Type}(p:α→Bool)(l:List α):Int:=if l.any p then l.findIdx p else -1
theorem tz{α:Type}{p:α→Bool}{l:List α}{k:Nat}(h:k<l.length)(hp:p l[k]=true)(dx: ∀j (h:j<l.length),j<k→p l[j]=false):lQ p l=k:=by unfold lQ;rw[if_pos (List.any_eq_true.2 ⟨_,List.getElem_mem h,hp⟩)];rw[(List.findIdx_eq h).2 ⟨hp,fun j hj=>dx j (by omega) hj⟩]
theorem tA{α:Type}{p:α→Bool}{l:List α}(dx: ∀j (h:j<l.length),p l[j]=false):lQ p l= -1:=by unfold lQ;rw[if_neg];intro h;obtain⟨x,hx,hp⟩:=List.any_eq_true.1 h;obtain⟨j,hj,rfl⟩:=List.mem_iff_getElem.1 hx;rw[dx j hj]at hp;cases hp
theorem nX{α:Type}(p:α→Bool)(l:List α):decide (0≤lQ p l)=l.any p:=by unfold lQ;cases l.any p<;>simp
end Go.K
namespace Go.K
open Go Go.RowKit
variable {F:Fence} {P:Program} {N:Nat} {ds:List Deferred} {l l':Env} {a:Act} {w:World} {Q:Exit→Act→World→Prop} {ops:Array Oper} {os:List Oper} {o:Oper}
variable {g0 g gd:G} {L:List cS} {K:Value→World→Prop} {φs:List Fact} {l0:Env}
theorem ay{i:Nat}(h:wR F P N ds ops Q φs l0 gd i o)(h2:gK F P N ds ops Q φs l0 gd (i+1) os):gK F P N ds ops Q φs l0 gd i (o::os):=⟨h,h2⟩
theorem fD{i:Nat}:gK F P N ds ops Q φs l0 gd i []:=trivial
theorem aj{k:Env→Prop}(h:k l):QA φs g [] l k:=h
theorem ai{k:Env→Prop}{j d:Nat}{x:Value}{r:List (Nat×Nat)}(he:fQ φs j=Fact.eq x)(h:QA φs g r ((d,x)::l) k):QA φs g ((j,d)::r) l k:=by intro v hv;rw[he]at hv;obtain rfl:v=x:=hv;exact h
theorem aZ{k:Env→Prop}{j d:Nat}{r:List (Nat×Nat)}(h: ∀v,(fQ φs j).p v g→QA φs g r ((d,v)::l) k):QA φs g ((j,d)::r) l k:=h
def DK(F:Fence)(P:Program)(N:Nat)(ds:List Deferred)(ops:Array Oper)(Q:Exit→Act→World→Prop)(φ:Fact)(g':G)(o:Oper)(env:Env):Prop:=
 match mx ops env o.guard with
 |some true=>cD F P N ds o env g'.w Q fun v w'=> ∃dc,dc.w=w'∧a_ g' dc∧φ.p v dc
 |some false=>φ.p undef g'
 |none=>False
theorem LB{i:Nat}(h: ∀g',a_ gd g'→QA φs g' (eb ops o) l0 (DK F P N ds ops Q (fQ φs i) g' o)):wR F P N ds ops Q φs l0 gd i o:=h
theorem an{i:Nat}{js:List (Nat×Nat)}(hj:eb ops o=js)(h: ∀g',a_ gd g'→QA φs g' js l0 (DK F P N ds ops Q (fQ φs i) g' o)):wR F P N ds ops Q φs l0 gd i o:=by subst hj;exact h
theorem r4{φ:Fact}(hg:mx ops l o.guard=some false)(h:φ.p undef g):DK F P N ds ops Q φ g o l:=by unfold DK;rw[hg];exact h
theorem aB{φ:Fact}(hg:mx ops l o.guard=some true)(h:cD F P N ds o l g.w Q fun v w'=> ∃dc,dc.w=w'∧a_ g dc∧φ.p v dc):DK F P N ds ops Q φ g o l:=by unfold DK;rw[hg];exact h
variable {Q':Exit→Act→World→Prop} {c y:Code} {J:Act→World→Prop} {id:Nat}
theorem ar(h:W F P N ds y Q' l w): ∀a,Fr N ds l a→Exit.then (y.wpIn F 0 P Q') Q .normal a w:=h
theorem cI(h:W F P N ds c Q l w): ∀a,Fr N ds l a→c.wpIn F 0 P Q a w:=h
theorem bR(h: ∀a,Fr N ds l a→Q .normal a w): ∀a,Fr N ds l a→Exit.inBlock id Q .normal a w:=h
theorem c_(h: ∀a,Fr N ds l a→Q .normal a w): ∀a,Fr N ds l a→Exit.inBlock id Q (.exit id) a w:=fun a ha=>by unfold Exit.inBlock;simp only[if_true];exact h a ha
theorem Ll{Tt:Nat}(fB:Nat.beq Tt id=false)(h: ∀a,Fr N ds l a→Q (.exit Tt) a w): ∀a,Fr N ds l a→Exit.inBlock id Q (.exit Tt) a w:=fun a ha=>by unfold Exit.inBlock;simp only;rw[if_neg (fun e=>by subst e;simp at fB)];exact h a ha
theorem bG(h: ∀a,Fr N ds l a→Q (.exit id) a w): ∀a,Fr N ds l a→Exit.then J Q (.exit id) a w:=h
theorem eD(h: ∀a,Fr N ds l a→Q .ret a w): ∀a,Fr N ds l a→Exit.then J Q .ret a w:=h
theorem hQ(h: ∀a,Fr N ds l a→Q .ret a w): ∀a,Fr N ds l a→Exit.inBlock id Q .ret a w:=h
end Go.K
namespace Go.K
open Go Go.RowKit
variable {F:Fence} {P:Program} {N:Nat} {ds:List Deferred} {l l':Env} {a:Act} {w:World} {Q:Exit→Act→World→Prop} {ops:Array Oper} {os:List Oper} {o:Oper}
variable {g0 g g':G} {L:List cS} {K:Value→World→Prop} {R:Ending→World→Prop}
theorem Fg{fn:Func}{t D:Nat}{v:Value}(i:Nat)(hr:fn.results=#[.tmp t])(hs:St g0 g L)(hi:L[i]? =some (.obj D fK))(hl:lk l t=some v)
  (hR: ∀g',St g0 g' (L.eraseIdx i)→g.le g'→R (.returned v) g'.w) (a:Act) (ha:Fr N [⟨.collected D,#[]⟩] l a):bodyPostM Wd 0 P fn R .ret a g.w:=by
 show LeavesInM Wd 0 P fn a.tmps R a.defers .returning g.w;rw[ha.defers];have hp:=hs.po (o':=.deferred none) hi;refine ya hs hi ⟨_,results_tmp hr _ _ _,?_⟩;have:a.tmps.getD t undef=v:=by simp[Array.getD_eq_getD_getElem?,ha.get t v hl]
 rw[this];refine hR _ ?_ hp.2;have h2:=hp.1.drop i;rwa [show(L.set i (cS.obj D (.deferred none))).eraseIdx i=L.eraseIdx i from by apply List.ext_getElem?;intro j;simp only[List.getElem?_eraseIdx,List.getElem?_set];split<;>(rw[if_neg (by omega)])]at h2
theorem EN{fn:Func}{D:Nat}(i:Nat)(hr:fn.results=#[])(hs:St g0 g L)(hi:L[i]? =some (.obj D fK))
  (hR: ∀g',St g0 g' (L.eraseIdx i)→g.le g'→R (.returned (.tuple #[])) g'.w) (a:Act) (ha:Fr N [⟨.collected D,#[]⟩] l a):bodyPostM Wd 0 P fn R .normal a g.w:=by
 show LeavesInM Wd 0 P fn a.tmps R a.defers .returning g.w;rw[ha.defers];have hp:=hs.po (o':=.deferred none) hi;refine ya hs hi ⟨_,results_none hr _ _ _,?_⟩;refine hR _ ?_ hp.2;have h2:=hp.1.drop i;rwa [show(L.set i (cS.obj D (.deferred none))).eraseIdx i=L.eraseIdx i from by apply List.ext_getElem?;intro j;simp only[List.getElem?_eraseIdx,List.getElem?_set];split<;>(rw[if_neg (by omega)])]at h2
def km{α:Type}[El α](e:TypeId)(g:G)(xs:List α)(g':G)(v:Value):Prop:=∃cells,cS.holds g.w.heap.size g' (.row e (El.k α) v xs.length cells)∧cG g' cells xs
theorem St.ft(hs:St g0 g L)(hf:a_ g g'){e:cS}(h:e.holds g.w.heap.size g'):St g0 g' (e::L):=by
 have aT:=hs.call hf;refine⟨aT.below,aT.im,?_,?_⟩
 ·intro j x hj;cases j with
  |zero=>
   simp only[List.getElem?_cons_zero,Option.some.injEq]at hj;subst hj;cases e with
   |obj b o=>exact⟨Nat.le_trans hs.below.size h.1,h.2⟩
   |row t k v n xs=>
    refine⟨⟨h.1.1,?_⟩,h.2⟩;rcases h.1.2 with h'|⟨b,off,cap,cur,e1,hB,h'⟩
    ·exact .inl h'
    exact .inr ⟨b,off,cap,cur,e1,Nat.le_trans hs.below.size hB,h'⟩
  |succ j=>exact aT.own j x (by simpa using hj)
 intro j k x y Ci hj hk b wS tD;cases j with
 |zero=>
  cases k with
  |zero=>exact Ci rfl
  |succ k=>
   simp only[List.getElem?_cons_zero,Option.some.injEq]at hj;subst hj;have h1:=(h.lt b wS).1;have h2:=((hs.own k y (by simpa using hk)).lt b tD).2.1;omega
 |succ j=>
  cases k with
  |zero=>
   simp only[List.getElem?_cons_zero,Option.some.injEq]at hk;subst hk;have h1:=(h.lt b tD).1;have h2:=((hs.own j x (by simpa using hj)).lt b wS).2.1;omega
  |succ k=>exact aT.sep j k x y (by omega) (by simpa using hj) (by simpa using hk) b wS tD
theorem St.nK{α:Type}[El α](hs:St g0 g L){i:Nat}{e:TypeId}{v:Value}{n:Nat}{cells:List Value}{xs:List α}(hi:L[i]? =some (.row e (El.k α) v n cells))(hr:cG g cells xs):km e g0 xs g v:=by
 have h:=hs.own i _ hi;have hn:n=xs.length:=by have h1:=h.1.1;have hp:=El.pos (α:=α);rw[hr.len]at h1;exact(Nat.eq_of_mul_eq_mul_right hp h1).symm
 subst hn;exact⟨cells,h,hr⟩
theorem km.nil{α:Type}[El α](e:TypeId)(g g':G)(a:Option Addr):km e g ([]:List α) g' (.slice a 0 0):=
 ⟨[],⟨Row.nil _ _ _ _ _,fun b hb=>by rw[j6]at hb;cases hb⟩,rfl⟩
theorem St.nU{α:Type}[El α](hs:St g0 g L)(hf:a_ g g'){e:TypeId}{v:Value}{xs:List α}(h:km e g xs g' v): ∃g2,g2.w=g'.w∧St g0 g2 L∧g'.le g2∧Rs g2 v xs:=by obtain⟨cells,h1,h2⟩:=h;obtain⟨g2,e1,e2,e3,e4⟩:=(hs.ft hf h1).cK (i:=0) rfl h2;exact⟨g2,e1,e2,e3,e4⟩
theorem cG.ints(g:G): ∀xs:List Int,cG g (xs.map (Value.int .i64)) xs
 |[]=>rfl
 |x::xs=>⟨[.int .i64 x],xs.map (Value.int .i64),rfl,rfl,cG.ints g xs⟩
end Go.K
namespace Go.K
open Go Go.RowKit
variable {F:Fence} {P:Program} {N:Nat} {ds:List Deferred} {l l':Env} {a:Act} {w:World} {Q:Exit→Act→World→Prop} {ops:Array Oper} {os:List Oper} {o:Oper}
variable {g0 g g':G} {L:List cS} {K:Value→World→Prop}
theorem DL(z:Array Value)(n:Nat)(hz:0<z.size):(Builtin.zeroCells z n).toList=(List.replicate n z.toList).flatten:=wT z n hz
theorem wE{tb:Tb}(dq:tb.ok P)(i:Nat){t e:Nat}{ti ei:TI}{k:Nat}{x:Operand}{b p m cap n c' a:Nat}{ad:Option Addr}{xs xs':List Value}
  (ho:o.op= .call {callee:=.builtin .clear,args:=#[x],argTypes:=#[t]}) (hs:St g0 g L) (hL:L[i]? =some (.row e k (.slice (some ⟨b,p,none⟩) n cap) n xs)) (hx:ev l x=some (.slice ad m c'))
  (hi:tl tb t=some ti) (hd:ti.desc= .slice e) (hj:tl tb e=some ei) (hk:ei.size=k) (nA:0<k) (hz:ei.zero.cells.size=k) (h1:ei.zero.cells.toList.all Value.oneCell'=true)
  (Tu:m=0∨ad=some ⟨b,p+a*k,none⟩) (Xf:a+m=n) (jf:xs'=xs.take (a*k)++(List.replicate m ei.zero.cells.toList).flatten)
  (kk: ∀g',St g0 g' (L.set i (.row e k (.slice (some ⟨b,p,none⟩) n cap) n xs'))→g.le g'→K (.tuple #[]) g'.w):cD F P N ds o l g.w Q K:=by
 obtain⟨⟨dd,hu,he⟩,_⟩:=dq.at hi;rw[hd]at he;obtain rfl:=KD.of_slice he;obtain⟨_,inf,e1,e2,e3,e4⟩:=dq.at hj;have dT:=hs.own i _ hL;have lX:=dT.1.1;by_cases hm:m=0
 ·subst hm;have Xg:xs'=xs:=by rw[jf,show a=n from by omega,List.take_of_length_le (by omega)];simp
  subst Xg;refine eZ ho (w':=g.w) (v:=.tuple #[]) (fun ac ha=>?_) (kk g (by
   rw[show L.set i (cS.row e k (.slice (some ⟨b,p,none⟩) n cap) n xs')=L from by
    apply List.ext_getElem?;intro j;rw[List.getElem?_set];split
    ·rename_i h;subst h;rw[hL];simp[(List.getElem?_eq_some_iff.1 hL).1]
    rfl]
   exact hs) (G.le.refl g))
  cases ad<;>simp[resolve,invoke,builtin,ha.ev hx,Builtin.clear_,run_underlying hu]
 have Tu:=Tu.resolve_left hm;subst Tu;have Tv:((List.replicate m ei.zero.cells.toList).flatten).length=m*k:=by simp[hz]
 have Zm:0<m*k:=Nat.mul_pos (by omega) nA;have U2:n*k=a*k+m*k:=by rw[←Xf,Nat.add_mul]
 obtain⟨cur,_,hh,F8,hR,rP,_⟩:=dT.1.store (us:=(List.replicate m ei.zero.cells.toList).flatten) (off:=a*k) (by rw[Tv,lX];omega) (by omega);have Tw:lh xs (a*k) (List.replicate m ei.zero.cells.toList).flatten=xs':=by unfold lh;rw[Tv,List.drop_of_length_le (by omega),List.append_nil,jf]
 rw[Tw]at hR;have dH:=hs.Hn (g':=g.sr b (lh cur (p+a*k) (List.replicate m ei.zero.cells.toList).flatten).toArray) (e':=.row e k (.slice (some ⟨b,p,none⟩) n cap) n xs') hL
  (by simp only[cS.s5,jw rP];exact kG _ _ _) (fun _ _=>Iff.rfl) ⟨hR,dT.2⟩ (fun b' sZ=> .inl sZ)
 refine eZ ho (w':=(g.sr b (lh cur (p+a*k) (List.replicate m ei.zero.cells.toList).flatten).toArray).w) (v:=.tuple #[]) (fun ac ha=>?_) (kk _ dH.1 dH.2);have CE:=hZ (P:=P) b (p+a*k) e (List.replicate m ei.zero.cells.toList).flatten 0 cur.toArray g.w hh (by simpa using F8) (by intro u hu;obtain⟨l',Eg,U3⟩:=List.mem_flatten.1 hu;rw[(List.mem_replicate.1 Eg).2]at U3;exact List.all_eq_true.1 h1 u U3);simp only[Nat.add_zero]at CE;obtain⟨m',rfl⟩: ∃m',m=m'+1:=⟨m-1,by omega⟩
 simp[resolve,invoke,builtin,ha.ev hx,Builtin.clear_,run_underlying hu,zeroValue,typeInfo,e1,e4,DL _ _ (by omega:0<ei.zero.cells.size),CE,G.sr,lh]
theorem Row.zx{B:Nat}{e:TypeId}{k n c a:Nat}{ad:Option Addr}{xs:List Value}(h:Row B e k (.slice ad n c) n xs w)(h1:a≤n):
  Row B e k (.slice (if c=0 then ad else ad.map (·.add (0*k))) (a-0) (c-0)) a (xs.take (a*k)) w:=by
 refine⟨by rw[List.length_take,h.1];exact Nat.min_eq_left (Nat.mul_le_mul_right k h1),?_⟩;rcases h.2 with⟨rfl,a',e1⟩|⟨b,p,cap,cur,e1,hB,hh,o7,sB,nY,ht⟩
 ·simp only[Value.slice.injEq]at e1;obtain⟨rfl,_,rfl⟩:=e1;obtain rfl:a=0:=by omega
  exact .inl ⟨rfl,ad,by simp⟩
 simp only[Value.slice.injEq]at e1;obtain⟨rfl,_,rfl⟩:=e1;by_cases DF:c=0
 ·subst DF;exact .inl ⟨by omega,_,by rw[show a-0=0 from by omega,show(0:Nat)-0=0 from rfl]⟩
 rw[if_neg DF];refine .inr ⟨b,p,c,cur,by simp[Addr.add_lit],hB,hh,by omega,sB,nY,?_⟩;rw[←ht,List.take_take,Nat.min_eq_left (Nat.mul_le_mul_right k h1)]
theorem St.zx(hs:St g0 g L){i:Nat}{e:TypeId}{k n c a:Nat}{ad:Option Addr}{xs:List Value}(hi:L[i]? =some (.row e k (.slice ad n c) n xs))(h1:a≤n):
  St g0 g (L.set i (.row e k (.slice (if c=0 then ad else ad.map (·.add (0*k))) (a-0) (c-0)) a (xs.take (a*k)))):=by
 have dT:=hs.own i _ hi;have rS: ∀b,qi (.slice (if c=0 then ad else ad.map (·.add (0*k))) (a-0) (c-0))=some b→qi (.slice ad n c)=some b:=by
  intro b hb;by_cases hc:c=0
  ·subst hc;rw[show(0:Nat)-0=0 from rfl,j6]at hb;cases hb
  rw[if_neg hc]at hb;cases ad with
  |none=>simp[qi]at hb
  |some ad=>
   rw[Option.map_some,Nat.sub_zero,Nat.sub_zero,jw hc]at hb;rw[jw hc];rw[Nat.zero_mul]at hb;simpa [Addr.add]using hb
 exact(hs.Hn (g':=g) (e':=.row e k (.slice (if c=0 then ad else ad.map (·.add (0*k))) (a-0) (c-0)) a (xs.take (a*k))) hi (jx _ _) (fun _ _=>Iff.rfl)
  ⟨dT.1.zx h1,fun b hb=>dT.2 b (rS b hb)⟩ (fun b hb=> .inl (rS b hb))).1
theorem St.cutFrom(hs:St g0 g L){i:Nat}{e:TypeId}{k n c a:Nat}{ad:Option Addr}{xs:List Value}(hi:L[i]? =some (.row e k (.slice ad n c) n xs))(h1:a≤n):
  St g0 g (L.set i (.row e k (.slice (if c=a then ad else ad.map (·.add (a*k))) (n-a) (c-a)) (n-a) (xs.drop (a*k)))):=by
 have dT:=hs.own i _ hi;have o7:n≤c:=by
  rcases dT.1.2 with⟨h,a',e1⟩|⟨b,p,cap,cur,e1,_,_,h2,_⟩
  ·omega
  simp only[Value.slice.injEq]at e1;omega
 have rS: ∀b,qi (.slice (if c=a then ad else ad.map (·.add (a*k))) (n-a) (c-a))=some b→qi (.slice ad n c)=some b:=by
  intro b hb;by_cases hc:c=a
  ·rw[show c-a=0 from by omega,j6]at hb;cases hb
  rw[if_neg hc]at hb;cases ad with
  |none=>simp[qi]at hb
  |some ad=>
   rw[Option.map_some,jw (by omega)]at hb;rw[jw (by omega)];rw[←hb];unfold Addr.add;split<;>rfl
 exact(hs.Hn (g':=g) (e':=.row e k (.slice (if c=a then ad else ad.map (·.add (a*k))) (n-a) (c-a)) (n-a) (xs.drop (a*k))) hi (jx _ _) (fun _ _=>Iff.rfl)
  ⟨dT.1.cutFrom h1,fun b hb=>dT.2 b (rS b hb)⟩ (fun b hb=> .inl (rS b hb))).1
theorem St.Pb{α:Type}[El α](hs:St g0 g L){i:Nat}{e:TypeId}{v:Value}{n:Nat}{cells:List Value}{xs:List α}(hi:L[i]? =some (.row e (El.k α) v n cells))(hr:cG g cells xs):
  ∃gf,gf.w=g.w∧g.le gf∧Rs gf v xs∧ ∀g2,a_ gf g2→ ∃g3,g3.w=g2.w∧a_ g g3:=by
 have dT:=hs.own i _ hi;have bC: ∀b,qi v=some b→b<g.w.heap.size:=fun b hb=>(dT.1.lt b hb).2;refine⟨g.fz (qi v) bC,rfl,G.qt g _ _,dT.1.rs hr (G.qt g _ _) fun b hb=>⟨.inr hb,rfl⟩,fun g2 hf=>?_⟩;refine⟨⟨g2.w,fun b=>g2.im b∧qi v≠some b,fun b h=>g2.lt b h.1⟩,rfl,hf.below,fun b hb=>?_⟩;have h1:=hf.im b hb;constructor
 ·intro h;rcases h1.1 h.1 with h'|h'
  ·exact h'
  exact absurd h' h.2
 intro h;exact⟨h1.2 (.inl h),fun h'=>dT.2 b h' h⟩
end Go.K
namespace Go.K
open Go Go.RowKit
variable {F:Fence} {P:Program} {N:Nat} {ds:List Deferred} {ops:Array Oper} {Q:Exit→Act→World→Prop} {φs:List Fact} {l0:Env} {gd:G}
def pH(φ:Fact):Prop:=∀v g g',g.le g'→φ.p v g→φ.p v g'
def jc(own:List Nat):Nat→List Fact→Prop
 |_,[]=>True
 |i,φ::r=>(own.contains i=true∨pH φ)∧jc own (i+1) r
theorem qK(x:Value):pH (Fact.eq x):=fun _ _ _ _ h=>h
theorem cr{α:Type}[El α](xs:List α):pH (Fact.rs xs):=fun _ _ _ hle h=>Rs.mono hle h
theorem dk:pH Fact.any:=fun _ _ _ _ h=>h
theorem FQ{own:List Nat}{i:Nat}:jc own i []:=trivial
theorem gN{own:List Nat}{i:Nat}{φ:Fact}{r:List Fact}(h:pH φ)(h2:jc own (i+1) r):jc own i (φ::r):=⟨.inr h,h2⟩
theorem FR{own:List Nat}{i:Nat}{x:Value}{r:List Fact}(h2:jc own (i+1) r):jc own i (Fact.eq x::r):=⟨.inr (qK x),h2⟩
theorem FT{own:List Nat}{i:Nat}{φ:Fact}{r:List Fact}(h:own.contains i=true)(h2:jc own (i+1) r):jc own i (φ::r):=⟨.inl h,h2⟩
theorem jc.at{own:List Nat}: ∀{φs:List Fact} {i:Nat},jc own i φs→ ∀j,own.contains (i+j)=true∨pH (fQ φs j)
 |[],i,_,j=> .inr (by unfold fQ;simpa using dk)
 |φ::r,i,h,0=>by simpa [fQ]using h.1
 |φ::r,i,h,j+1=>by have:=jc.at (i:=i+1) h.2 j;rw[show i+(j+1)=i+1+j from by omega];simpa [fQ]using this
def Iw(e:Nat)(gd:G)(i:Nat)(g g':G):Prop:=if i=e then g.le g'∧a_ gd g' else a_ g g'
def zM(F:Fence)(P:Program)(N:Nat)(ds:List Deferred)(ops:Array Oper)(Q:Exit→Act→World→Prop)(φs:List Fact)(l0:Env)(gd:G)(e i:Nat)(o:Oper):Prop:=
 ∀g',a_ gd g'→QA φs g' (eb ops o) l0 fun env=>
  match mx ops env o.guard with
  |some true=>cD F P N ds o env g'.w Q fun v w'=> ∃dc,dc.w=w'∧Iw e gd i g' dc∧(fQ φs i).p v dc
  |some false=>(fQ φs i).p undef g'
  |none=>False
def n9(F:Fence)(P:Program)(N:Nat)(ds:List Deferred)(ops:Array Oper)(Q:Exit→Act→World→Prop)(φs:List Fact)(l0:Env)(gd:G)(e:Nat):Nat→List Oper→Prop
 |_,[]=>True
 |i,o::os=>zM F P N ds ops Q φs l0 gd e i o∧n9 F P N ds ops Q φs l0 gd e (i+1) os
def CG(ops:Array Oper)(own:List Nat)(e m:Nat)(outs:List (Nat×Nat)):Bool:=
 outs.all (fun p=> !own.contains p.1)&&(List.range m).all (fun i=>i==e||(match ops[i]? with|some o=>(eb ops o).all (fun p=> !own.contains p.1)|none=>true))
theorem n9.at{e:Nat}: ∀{l:List Oper} {i0:Nat},n9 F P N ds ops Q φs l0 gd e i0 l→ ∀(j:Nat) o,l[j]? =some o→zM F P N ds ops Q φs l0 gd e (i0+j) o
 |[],_,_,j,o,h=>by simp at h
 |x::l,i0,hs,0,o,h=>by simp only[List.getElem?_cons_zero,Option.some.injEq]at h;subst h;exact hs.1
 |x::l,i0,hs,j+1,o,h=>by simp only[List.getElem?_cons_succ]at h;have:=n9.at (i0:=i0+1) hs.2 j o h;rw[show i0+(j+1)=i0+1+j from by omega];exact this
theorem Ii{id:Nat}{g:G}(hF: ∀f,F.fn f)(hm:P.follows .mixedOrders=true)(φs:List Fact)(m:Nat)(outs:List (Nat×Nat))(own:List Nat)(e:Nat)(lT:n_ N ops l0 m=true)(dT:CG ops own e m outs=true)(hsoft:jc own 0 φs)
  (houts:outs.all (fun p=>Nat.blt p.1 m&&(dh ops p.1==some p.2))=true)
  (gV:n9 F P N ds ops Q φs l0 g.dr e 0 (ops.toList.take m))
  (iT: ∀g',a_ g.dr g'→QA φs g' outs l0 fun env=>WL F P N ds ops Q (ops.toList.drop m) env g'.w):W F P N ds (.region id ops true) Q l0 g.w:=by
 intro a ha;simp only[n_,Bool.and_eq_true,List.all_eq_true,List.mem_range]at lT;obtain⟨⟨⟨c1,c2⟩,c3⟩,c4⟩:=lT;have c4:m≤ops.size:=Nat.le_of_ble_eq_true c4;have k1: ∀i o,ops[i]? =some o→ ∀j∈kH o,j<i:=by intro i o ho j hj;have:=c1 i (Array.getElem?_eq_some_iff.1 ho).1;rw[ho]at this;have:=(List.all_eq_true.1 this) j hj;simpa [Nat.blt_eq]using this
 have k2: ∀j o,m≤j→ops[j]? =some o→ ∀k,k<j→ ∃i' o',k<i'∧i'≤j∧ops[i']? =some o'∧k∈kH o':=by
  intro j o hj ho k hk;have:=c2 j (Array.getElem?_eq_some_iff.1 ho).1;simp only[Bool.or_eq_true]at this;rcases this with h|h
  ·have:j<m:=by simpa [Nat.blt_eq]using h
   omega
  have:=(List.all_eq_true.1 h) k (List.mem_range.2 hk);obtain⟨i',h1,h2⟩:=List.any_eq_true.1 this;simp only[Bool.and_eq_true]at h2;have h3:=List.mem_range.1 h1;cases pn:ops[i']? with
  |none=>rw[pn]at h2;simp at h2
  |some o'=>
   rw[pn]at h2;exact⟨i',o',by simpa [Nat.blt_eq]using h2.1,by omega,pn,by simpa using h2.2⟩
 have k4: ∀(listed:Array Bool),(∀k o,listed.getD k false=true→ops[k]? =some o→ ∀e∈kH o,listed.getD e false=true)→ ∀j o,m≤j→ops[j]? =some o→(∀e∈kH o,listed.getD e false=true)→ ∀k,k<j→listed.getD k false=true:=by
  intro listed fr j o hj ho cR;have: ∀d k,k<j→j-k=d→listed.getD k false=true:=by
   intro d
   induction d using Nat.strongRecOn with
   |_ d Bt=>
    intro k hk hd;obtain⟨i',o',h1,h2,h3,h4⟩:=k2 j o hj ho k hk;rcases Nat.lt_or_ge i' j with h|h
    ·exact fr i' o' (Bt (j-i') (by omega) i' h rfl) h3 k h4
    obtain rfl:i'=j:=by omega
    rw[ho]at h3;obtain rfl:=Option.some.inj h3;exact cR k h4
  exact fun k hk=>this _ k hk rfl
 have k3: ∀i,i<m→ ∃d,dh ops i=some d∧d<N∧lk l0 d=none∧ ∀j,j<m→j≠i→ ∃e,dh ops j=some e∧e≠d:=by
  intro i hi;have:=c3 i hi;cases hd:dh ops i with
  |none=>simp[hd]at this
  |some d=>
   simp only[hd,Bool.and_eq_true,List.all_eq_true,List.mem_range,Bool.or_eq_true]at this;refine⟨d,rfl,by simpa [Nat.blt_eq]using this.1.1,by simpa using this.1.2,fun j hj fB=>?_⟩;rcases this.2 j hj with h|h
   ·exact absurd (by simpa using h) fB
   cases he:dh ops j with
   |none=>simp[he]at h
   |some e=>exact⟨e,rfl,by simpa [he]using h⟩
 simp only[CG,Bool.and_eq_true,List.all_eq_true,List.mem_range]at dT;have o1: ∀p∈outs,own.contains p.1=false:=fun p hp=>by simpa using dT.1 p hp
 have o2: ∀i o,i<m→i≠e→ops[i]? =some o→ ∀p∈eb ops o,own.contains p.1=false:=by
  intro i o hi fB ho p hp;have:=dT.2 i hi;rw[ho]at this;simp only[Bool.or_eq_true]at this;rcases this with h|h
  ·exact absurd (by simpa using h) fB
  simpa using(List.all_eq_true.1 h) p hp
 let waits:Nat→Array Bool→Prop:=fun j listed=>(∃p∈outs,p.1=j)∨ ∃i o,i<m∧listed.getD i false=false∧ops[i]? =some o∧ ∃p∈eb ops o,p.1=j
 refine wpIn_region_any hm ?_;have key: ∀(fuel:Nat) (listed:Array Bool) (a:Act) (g':G),listed.size=ops.size→a_ g.dr g'→Fr N ds l0 a→
   (∀i,i<m→listed.getD i false=true→ ∃d v,dh ops i=some d∧a.tmps[d]? =some v∧(waits i listed→(fQ φs i).p v g'))→(∀j,m≤j→j<ops.size→listed.getD j false=false)→(∀k o,listed.getD k false=true→ops[k]? =some o→ ∀e∈kH o,listed.getD e false=true)→
   (ops.size-((List.range ops.size).filter fun i=>listed.getD i false).length≤fuel)→wpAnyIn F 0 P .any ops Q fuel listed a g'.w:=by
  intro fuel
  induction fuel with
  |zero=>
   intro listed a g' cP hf ha ec fG fr qP;have cR: ∀j,j<ops.size→listed.getD j false=true:=by
    have hlen:((List.range ops.size).filter fun i=>listed.getD i false).length=(List.range ops.size).length:=by have:=List.length_filter_le (fun i=>listed.getD i false) (List.range ops.size);simp only[List.length_range]at this⊢;omega
    have:=List.length_filter_eq_length_iff.1 hlen;intro j hj;exact this j (List.mem_range.2 hj)
   have Dj:m=ops.size:=by
    rcases Nat.lt_or_ge m ops.size with h|h
    ·have:=fG m (Nat.le_refl _) h;rw[cR m h]at this;cases this
    omega
   obtain⟨env,hW,gk⟩:=jM outs (iT g' hf) ha (fun p hp=>by
    have:=(List.all_eq_true.1 houts) p hp;simp only[Bool.and_eq_true,beq_iff_eq]at this;have bC:p.1<m:=by simpa [Nat.blt_eq]using this.1
    obtain⟨d,v,hd,hv,jF⟩:=ec p.1 bC (cR _ (by omega));replace jF:=jF (.inl ⟨p,hp,rfl⟩);rw[this.2]at hd;obtain rfl:=Option.some.inj hd;exact⟨v,hv,jF⟩)
   refine iG k1 0 ops.size listed a g'.w cP (Nat.le_refl _) (fun j o hj ho=>?_) (fun j hj=>⟨fun _=>hj,fun _=>cR j hj⟩) (by omega) (by rw[←Dj];exact hW a gk);have:=(Array.getElem?_eq_some_iff.1 ho).1;omega
  |succ fuel ih=>
   intro listed a g' cP hf ha ec fG fr qP;by_cases gj: ∀j,j<m→listed.getD j false=true
   ·obtain⟨env,hW,gk⟩:=jM outs (iT g' hf) ha (fun p hp=>by
     have:=(List.all_eq_true.1 houts) p hp;simp only[Bool.and_eq_true,beq_iff_eq]at this;have bC:p.1<m:=by simpa [Nat.blt_eq]using this.1
     obtain⟨d,v,hd,hv,jF⟩:=ec p.1 bC (gj _ bC);replace jF:=jF (.inl ⟨p,hp,rfl⟩);rw[this.2]at hd;obtain rfl:=Option.some.inj hd;exact⟨v,hv,jF⟩)
    refine iG k1 (fuel+1) m listed a g'.w cP c4 (fun j o hj ho=>k2 j o hj ho) (fun j hj=>⟨fun h=>?_,fun h=>gj j h⟩) ?_ (hW a gk)
    ·rcases Nat.lt_or_ge j m with h'|h'
     ·exact h'
     rw[fG j h' hj]at h;cases h
    have hle:((List.range ops.size).filter fun i=>listed.getD i false).length≤m:=by
     have mS:((List.range ops.size).filter fun i=>listed.getD i false).length≤((List.range ops.size).filter fun i=>decide (i<m)).length:=by
      refine List.Sublist.length_le ?_;rw[show((List.range ops.size).filter fun i=>listed.getD i false)=((List.range ops.size).filter fun i=>decide (i<m)).filter (fun i=>listed.getD i false)from ?_]
      ·exact List.filter_sublist
      rw[List.filter_filter];refine List.filter_congr fun i hi=>?_;have hi:=List.mem_range.1 hi;by_cases h:i<m
      ·simp[h]
      rw[fG i (by omega) hi];simp
     have:((List.range ops.size).filter fun i=>decide (i<m)).length=m:=by
      have e:ops.size=m+(ops.size-m):=by omega
      rw[e,List.range_add,List.filter_append,List.length_append,List.filter_eq_self.2 (by intro x hx;simpa using hx),List.filter_eq_nil_iff.2 (by intro x hx;obtain⟨y,_,rfl⟩:=List.mem_map.1 hx;simp)];simp
     omega
    omega
   --oP of yZ first part is not listed:yZ least Iy is ready
   have hex: ∃j,j<m∧listed.getD j false=false∧ ∀k,k<j→listed.getD k false=true:=by
    have: ∃j,j<m∧listed.getD j false=false:=by
     apply Classical.byContradiction;intro dx;apply gj;intro j hj;cases hc:listed.getD j false with
     |true=>rfl
     |false=>exact absurd ⟨j,hj,hc⟩ dx
    obtain⟨j,hj⟩:=this
    induction j using Nat.strongRecOn with
    |_ j Iz=>
     by_cases hk: ∃k,k<j∧listed.getD k false=false
     ·obtain⟨k,o_,yU⟩:=hk;exact Iz k o_ ⟨by omega,yU⟩
     refine⟨j,hj.1,hj.2,fun k o_=>?_⟩;cases hc:listed.getD k false with
     |true=>rfl
     |false=>exact absurd ⟨k,o_,hc⟩ hk
   obtain⟨j0,Rb,zN,s_⟩:=hex;have gW:j0∈Region.ready .any ops listed:=by
    rw[eL];have bC:j0<ops.size:=by omega
    refine⟨by rw[getD_lt (cP▸bC) true false];exact zN,_,Array.getElem?_eq_getElem bC,fun k hk=>s_ k (k1 j0 _ (Array.getElem?_eq_getElem bC) k hk)⟩
   refine⟨fun h0=>(by rw[h0]at gW;cases gW),fun i hi=>?_⟩;obtain⟨h0,o,ho,cR⟩:=eL.1 hi;have mq:i<ops.size:=(Array.getElem?_eq_some_iff.1 ho).1;rw[getD_lt (cP▸mq) true false]at h0;have oa:i<m:=by
    rcases Nat.lt_or_ge i m with h|h
    ·exact h
    have:=k4 listed fr i o h ho cR j0 (by omega);rw[zN]at this;cases this
   obtain⟨d,hd,P6,P7,F9⟩:=k3 i oa;have rr:o.dst=some d:=by unfold dh at hd;rw[ho]at hd;exact hd
   have jZ:=gV.at (i0:=0) i o (by rw[List.getElem?_take_of_lt oa];simpa using ho);rw[Nat.zero_add]at jZ;have mT: ∀p∈eb ops o,∃v,a.tmps[p.2]? =some v∧(fQ φs p.1).p v g':=by
    intro p hp;have Mw:=hp;unfold eb at hp;obtain⟨j,hj,uJ⟩:=List.mem_filterMap.1 hp;cases wU:dh ops j with
    |none=>simp[wU]at uJ
    |some e=>
     simp only[wU]at uJ;have IA:j<m:=by have:=k1 i o ho j hj;omega
     obtain⟨d',v,td,hv,jF⟩:=ec j IA (cR j hj);rw[wU]at td;obtain rfl:=Option.some.inj td;have Bu: ∀(c:Bool) (q:Nat×Nat),(bif c then some q else none)=some p→q=p:=by
      intro c q h;cases c with
      |true=>exact Option.some.inj h
      |false=>cases h
     obtain rfl:=Bu _ _ uJ;exact⟨v,hv,jF (.inr ⟨i,o,oa,h0,ho,_,Mw,rfl⟩)⟩
   obtain⟨env,hk,gk⟩:=jM (eb ops o) (jZ g' hf) ha mT;have jb: ∀(a':Act) (dc:G) (v:Value),a'=a.put o.dst v→Iw e g.dr i g' dc→(fQ φs i).p v dc→wpAnyIn F 0 P .any ops Q fuel (listed.setIfInBounds i true) a' dc.w:=by
    intro a' dc v he eu jF;have Bv:a_ g.dr dc:=by
     unfold Iw at eu;split at eu
     ·exact eu.2
     exact hf.trans eu
    have nB: ∀t,t≠d→a'.tmps[t]? =a.tmps[t]?:=fun t ht=>by rw[he,rr];simp only[Act.put];rw[Array.getElem?_setIfInBounds_ne (fun e=>ht e.symm)]
    have pv:a'.tmps[d]? =some v:=by rw[he,rr];simp only[Act.put];rw[Array.getElem?_setIfInBounds_self,if_pos (by rw[ha.size];exact P6)]
    have gJ: ∀k,k≠i→(listed.setIfInBounds i true).getD k false=listed.getD k false:=fun k hk=>by simp only[Array.getD_eq_getD_getElem?];rw[Array.getElem?_setIfInBounds_ne (fun e=>hk e.symm)]
    have dn:(listed.setIfInBounds i true).getD i false=true:=by simp[cP,mq]
    refine ih _ a' dc (by simpa using cP) Bv ⟨by rw[he,rr];exact ha.defers,by rw[he,rr];simp[Act.put,ha.size],fun t u hu=>?_⟩ (fun k hk lg=>?_) (fun j hj F_=>?_) (fun k o' hk yb e he=>?_) ?_
    ·have J5:t≠d:=fun e=>by subst e;rw[P7]at hu;cases hu
     rw[nB t J5];exact ha.get t u hu
    ·by_cases jK:k=i
     ·subst jK;exact⟨d,v,hd,pv,fun _=>jF⟩
     rw[gJ k jK]at lg;obtain⟨d',v',td,DN,yc⟩:=ec k hk lg;obtain⟨e,J6,J7⟩:=F9 k hk jK;rw[td]at J6;obtain rfl:=Option.some.inj J6;refine⟨d',v',td,by rw[nB d' J7];exact DN,fun P8=>?_⟩;have LC:waits k listed:=by
      rcases P8 with h|⟨i2,LD,h1,h2,h3⟩
      ·exact .inl h
      refine .inr ⟨i2,LD,h1,?_,h3⟩;by_cases h4:i2=i
      ·subst h4;rw[dn]at h2;cases h2
      rw[gJ i2 h4]at h2;exact h2
     have hp:=yc LC;unfold Iw at eu;split at eu
     ·rename_i vK;rcases jc.at hsoft k with h|h
      ·rw[Nat.zero_add]at h;rcases P8 with⟨p,o9,Cz⟩|⟨i2,LD,h1,h2,h3,p,o9,Cz⟩
       ·have:=o1 p o9;rw[Cz,h]at this;cases this
       by_cases h4:i2=e
       ·rw[h4,←vK,dn]at h2;cases h2
       have:=o2 i2 LD h1 h4 h3 p o9;rw[Cz,h]at this;cases this
      exact h _ _ _ eu.1 hp
     exact(fQ φs k).mono _ _ _ eu hp
    ·rw[gJ j (by omega)];exact fG j hj F_
    ·have hle: ∀x,listed.getD x false=true→(listed.setIfInBounds i true).getD x false=true:=fun x hx=>by
      by_cases yV:x=i
      ·subst yV;exact dn
      rw[gJ x yV];exact hx
     by_cases jK:k=i
     ·subst jK;rw[ho]at yb;obtain rfl:=Option.some.inj yb;exact hle e (cR e he)
     rw[gJ k jK]at hk;exact hle e (fr k o' hk yb e he)
    have bC:((List.range ops.size).filter fun k=>listed.getD k false).length<((List.range ops.size).filter fun k=>(listed.setIfInBounds i true).getD k false).length:=by
     have mS:List.Sublist ((List.range ops.size).filter fun k=>listed.getD k false) ((List.range ops.size).filter fun k=>(listed.setIfInBounds i true).getD k false):=by
      have e:((List.range ops.size).filter fun k=>listed.getD k false)=((List.range ops.size).filter fun k=>(listed.setIfInBounds i true).getD k false).filter (fun k=>listed.getD k false):=by
       rw[List.filter_filter];refine List.filter_congr fun k _=>?_;by_cases jK:k=i
       ·subst jK;rw[dn];simp
       rw[gJ k jK];simp
      rw[e];exact List.filter_sublist
     refine Nat.lt_of_le_of_ne mS.length_le fun e=>?_;have:=mS.eq_of_length e;have AM:i∈((List.range ops.size).filter fun k=>(listed.setIfInBounds i true).getD k false):=List.mem_filter.2 ⟨List.mem_range.2 mq,dn⟩;rw[←this]at AM;have:=(List.mem_filter.1 AM).2;rw[h0]at this;cases this
    omega
   unfold wpOpIn;rw[ho];simp only;cases hg:mx ops env o.guard with
   |none=>rw[hg]at hk;exact hk.elim
   |some b=>
    have lE:Region.wanted o (yielded ops a.tmps)=b:=jy (l:=env) (o:=o) hg gk;rw[hg]at hk;cases b with
    |true=>
     rw[if_pos lE];exact Oper.wpIn_mono (fun a' w' ⟨v,he,dc,hw,eu,jF⟩=>hw▸jb a' dc v he eu jF) (hk a gk)
    |false=>
     rw[if_neg (by rw[lE];simp)];exact⟨fun f _=>hF f,jb _ g' undef rfl (by unfold Iw;split;exact⟨G.le.refl _,hf⟩;exact a_.refl _) hk⟩
 refine key ops.size _ a g.dr (by simp) (a_.refl _) ha (fun i hi hl=>?_) (fun j _ hj=>by simp[hj]) (fun k o hl=>?_) (by omega)
 ·simp only[Array.getD_eq_getD_getElem?,Array.getElem?_replicate]at hl;split at hl<;>simp at hl
 simp only[Array.getD_eq_getD_getElem?,Array.getElem?_replicate]at hl;split at hl<;>simp at hl
variable {e:Nat} {os:List Oper} {o:Oper} {l:Env} {g:G}
theorem dD{i:Nat}(h:zM F P N ds ops Q φs l0 gd e i o)(h2:n9 F P N ds ops Q φs l0 gd e (i+1) os):n9 F P N ds ops Q φs l0 gd e i (o::os):=⟨h,h2⟩
theorem PO{i:Nat}:n9 F P N ds ops Q φs l0 gd e i []:=trivial
theorem cV{i:Nat}{js:List (Nat×Nat)}(hj:eb ops o=js)(fB:Nat.beq i e=false)(h: ∀g',a_ gd g'→QA φs g' js l0 (DK F P N ds ops Q (fQ φs i) g' o)):zM F P N ds ops Q φs l0 gd e i o:=by
 subst hj;have LF:i≠e:=fun x=>by subst x;simp at fB
 intro g' hf;have hq:=h g' hf;have: ∀env,DK F P N ds ops Q (fQ φs i) g' o env→(match mx ops env o.guard with
  |some true=>cD F P N ds o env g'.w Q fun v w'=> ∃dc,dc.w=w'∧Iw e gd i g' dc∧(fQ φs i).p v dc
  |some false=>(fQ φs i).p undef g'
  |none=>False):=by
  intro env hd;unfold DK at hd;unfold Iw;simp only[if_neg LF];exact hd
 have mono: ∀(js:List (Nat×Nat)) (l:Env) (k k':Env→Prop),(∀env,k env→k' env)→QA φs g' js l k→QA φs g' js l k':=by
  intro js
  induction js with
  |nil=>exact fun l k k' hk h=>hk _ h
  |cons p r ih=>exact fun l k k' hk h v hv=>ih _ k k' hk (h v hv)
 exact mono _ _ _ _ this hq
def DE(F:Fence)(P:Program)(N:Nat)(ds:List Deferred)(ops:Array Oper)(Q:Exit→Act→World→Prop)(φ:Fact)(gd g':G)(o:Oper)(env:Env):Prop:=
 mx ops env o.guard=some true∧cD F P N ds o env g'.w Q fun v w'=> ∃dc,dc.w=w'∧g'.le dc∧a_ gd dc∧φ.p v dc
theorem PN{js:List (Nat×Nat)}(hj:eb ops o=js)(h: ∀g',a_ gd g'→QA φs g' js l0 (DE F P N ds ops Q (fQ φs e) gd g' o)):zM F P N ds ops Q φs l0 gd e e o:=by
 subst hj;intro g' hf;have hq:=h g' hf;have: ∀env,DE F P N ds ops Q (fQ φs e) gd g' o env→(match mx ops env o.guard with
  |some true=>cD F P N ds o env g'.w Q fun v w'=> ∃dc,dc.w=w'∧Iw e gd e g' dc∧(fQ φs e).p v dc
  |some false=>(fQ φs e).p undef g'
  |none=>False):=by
  rintro env ⟨hg,hd⟩;rw[hg];unfold Iw;simp only[if_true];have hw:(fun v w'=> ∃dc,dc.w=w'∧g'.le dc∧a_ gd dc∧(fQ φs e).p v dc)=fun v w'=> ∃dc,dc.w=w'∧(g'.le dc∧a_ gd dc)∧(fQ φs e).p v dc:=by
   funext v w';apply propext;constructor
   ·rintro⟨dc,h1,h2,h3,h4⟩;exact⟨dc,h1,⟨h2,h3⟩,h4⟩
   rintro⟨dc,h1,⟨h2,h3⟩,h4⟩;exact⟨dc,h1,h2,h3,h4⟩
  rw[hw]at hd;exact hd
 have mono: ∀(js:List (Nat×Nat)) (l:Env) (k k':Env→Prop),(∀env,k env→k' env)→QA φs g' js l k→QA φs g' js l k':=by
  intro js
  induction js with
  |nil=>exact fun l k k' hk h=>hk _ h
  |cons p r ih=>exact fun l k k' hk h v hv=>ih _ k k' hk (h v hv)
 exact mono _ _ _ _ this hq
end Go.K
namespace Go.K
open Go Go.RowKit
variable {F:Fence} {P:Program} {N:Nat} {ds:List Deferred} {l l':Env} {a:Act} {w:World} {Q:Exit→Act→World→Prop} {c:Code}
theorem jd{b:Frame}{k:List Item}{cs:List Frame}:step P (lone (b.atR a (.code (.scope c)::k)) cs w)= .next (lone (b.atR a (.code c:: .inScope c::k)) cs w):=
 step_lone_go (by simp[stepG,stepG.exec,Frame.atR])
theorem vL{b:Frame}{k:List Item}{cs:List Frame}:step P (lone (b.atR a (.inScope c::k)) cs w)= .next (lone (b.atR a k) cs w):=
 step_lone_go (by simp[stepG,stepG.exec,Frame.atR])
theorem Ik(h:W F P N ds c (Exit.noGoto Q) l w):W F P N ds (.scope c) Q l w:=by
 intro a ha b k cs Lb hb hr;have h0:(lone (b.atR a (.code (.scope c)::k)) cs w).fenced P F:=fenced_calm hb hr rfl;obtain⟨e,a₁,w₁,hq,pV⟩:=h a ha b (.inScope c::k) cs Lb hb hr;cases e with
 |normal=>exact⟨.normal,a₁,w₁,hq,.head h0 jd (StepsIn.trans pV (.one (fenced_calm hb hr rfl) vL))⟩
 |exit id=>
  have hx:exitTo id (.inScope c::k)=exitTo id k:=by simp[exitTo]
  exact⟨.exit id,a₁,w₁,hq,fun k' hk=> .head h0 jd (pV.1 k' (by rw[hx];exact hk)),
   fun Jk hk=>let⟨k₁,h1,h2⟩:=pV.2 Jk (by rw[hx];exact hk);⟨k₁,h1,.head h0 jd h2⟩⟩
 |goto l=>exact hq.elim
 |ret=>exact⟨_,a₁,w₁,hq,.of_steps (.one h0 jd) pV⟩
 |panic ch=>exact⟨_,a₁,w₁,hq,.of_steps (.one h0 jd) pV⟩
 |outgrown=>exact⟨_,a₁,w₁,hq,.of_steps (.one h0 jd) pV⟩
theorem Ln(h: ∀a,Fr N ds l a→Q .ret a w): ∀a,Fr N ds l a→Exit.noGoto Q .ret a w:=h
end Go.K
namespace Go.K
open Go Go.RowKit
variable {F:Fence} {P:Program} {N:Nat} {ds:List Deferred} {l l':Env} {a:Act} {w:World} {Q:Exit→Act→World→Prop} {o:Oper} {K:Value→World→Prop}
theorem oQ{t t':TypeId}{x y:Operand}{k:IntKind}{m n:Int}(ho:o.op= .binOp .rem t x y t')(hx:ev l x=some (.int k m))(hy:ev l y=some (.int k n))(hn:n≠0)(kk:K (.int k (m.tmod n)) w):cD F P N ds o l w Q K:=by refine bO (fun c=>⟨by rw[ho];simp,by rw[ho];simp⟩) (fun a ha=>?_) kk;simp only[execOp,ho,ha.ev hx,ha.ev hy,Sem.run_bind,gF,Result.andThen_ok];unfold binOp;simp only[ne_eq,not_true_eq_false,if_false];unfold Op.intDiv;rw[if_neg hn];rfl
end Go.K

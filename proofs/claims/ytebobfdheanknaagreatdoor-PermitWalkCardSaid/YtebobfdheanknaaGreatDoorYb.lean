/- Parts of the proof, from: A region that draws its order: its operations are shown one by one, each in whatever world the others may have left; what each yields is a fact that further new memory does not turn. -/
import Derived.Test.YtebobfdheanknaaGreatDoorYa
import Derived.WalkSpells
import Derived.WalkLawsBesides
import Derived.Scope
import Derived.Deep.Slices
import Derived.ProofKit
import Derived.OpenShut
namespace Go.K
open Go Go.RowKit
structure Fact where
 p:Value→G→Prop
 mono: ∀v g g',aZ g g'→p v g→p v g'
def Fact.eq(x:Value):Fact:=⟨fun v _=>v=x,fun _ _ _ _ h=>h⟩
def Fact.any:Fact:=⟨fun _ _=>True,fun _ _ _ _ h=>h⟩
def Fact.rs{α:Type}[El α](xs:List α):Fact:=⟨fun v g=>Rs g v xs,fun _ _ _ hf h=>h.mono hf.le⟩
def Fact.ep(c:Nat→Nat→G→Prop)(hc: ∀b p g g',aZ g g'→c b p g→c b p g'):Fact:=
 ⟨fun v g=> ∃b p,v= .pointer (some ⟨b,p,none⟩)∧c b p g,fun _ _ _ hf ⟨b,p,e,h⟩=>⟨b,p,e,hc _ _ _ _ hf h⟩⟩
def gP(φs:List Fact)(i:Nat):Fact:=φs.getD i Fact.any
def lb(o:Oper):List Nat:=(o.after.toList.filter (Region.binds .any)).map (·.on)
def By(o:Oper):List Nat:=o.op.operands.toList.filterMap fun| .tmp t=>some t|_=>none
def dH(ops:Array Oper)(j:Nat):Option Nat:=(ops[j]?).bind (·.dst)
def eQ(ops:Array Oper)(o:Oper):List (Nat×Nat):=
 (lb o).filterMap fun j=>
  match dH ops j with
  |some d=>bif (By o).contains d||(match o.guard with|some (g,_)=>g==j|none=>false)then some (j,d)else none
  |none=>none
def QA(φs:List Fact)(g:G):List (Nat×Nat)→Env→(Env→Prop)→Prop
 |[],l,k=>k l
 |(j,d)::r,l,k=> ∀v,(gP φs j).p v g→QA φs g r ((d,v)::l) k
variable (F:Fence) (P:Program) (N:Nat) (ds:List Deferred) (ops:Array Oper) (Q:Exit→Act→World→Prop) (φs:List Fact) (l0:Env) (gd:G)
def vF(i:Nat)(o:Oper):Prop:=
 ∀g',aZ gd g'→QA φs g' (eQ ops o) l0 fun env=>
  match mJ ops env o.guard with
  |some true=>cT F P N ds o env g'.w Q fun v w'=> ∃dP,dP.w=w'∧aZ g' dP∧(gP φs i).p v dP
  |some false=>(gP φs i).p undef g'
  |none=>False
def gB:Nat→List Oper→Prop
 |_,[]=>True
 |i,o::os=>vF F P N ds ops Q φs l0 gd i o∧gB (i+1) os
def qY(m:Nat):Bool:=
 (List.range ops.size).all (fun i=>match ops[i]? with|some o=>(lb o).all (fun j=>Nat.blt j i)|none=>true)&&
 (List.range ops.size).all (fun j=>Nat.blt j m||(List.range j).all (fun k=>(List.range (j+1)).any (fun i=>Nat.blt k i&&(match ops[i]? with|some o=>(lb o).contains k|none=>false))))&&
 (List.range m).all (fun i=>match dH ops i with
  |some d=>Nat.blt d N&&(lk l0 d).isNone&&(List.range m).all (fun j=>j==i||(match dH ops j with|some e=>e !=d|none=>false))
  |none=>false)&&Nat.ble m ops.size
variable {F P N ds ops Q φs l0 gd}
theorem Bz{o:Oper}{j:Nat}:j∈lb o↔ ∃e∈o.after,Region.binds .any e=true∧e.on=j:=by
 unfold lb
 rw[List.mem_map]
 constructor
 ·rintro⟨e,he,rfl⟩
  rw[List.mem_filter]at he
  exact⟨e,by simpa using he.1,he.2,rfl⟩
 ·rintro⟨e,he,hb,rfl⟩
  exact⟨e,List.mem_filter.2 ⟨by simpa using he,hb⟩,rfl⟩
theorem ft{j:Nat}{listed:Array Bool}:j∈Region.ready .any ops listed↔listed.getD j true=false∧ ∃o,ops[j]? =some o∧ ∀k∈lb o,listed.getD k false=true:=by
 rw[mem_ready]
 constructor
 ·rintro⟨h0,o,ho,h⟩
  refine⟨h0,o,ho,fun k hk=>?_⟩
  obtain⟨e,he,hb,rfl⟩:=Bz.1 hk
  exact h e he hb
 ·rintro⟨h0,o,ho,h⟩
  exact⟨h0,o,ho,fun e he hb=>h _ (Bz.2 ⟨e,he,hb,rfl⟩)⟩
theorem getD_lt{listed:Array Bool}{j:Nat}(h:j<listed.size)(a b:Bool):listed.getD j a=listed.getD j b:=by simp[h]
theorem jM(h1: ∀i o,ops[i]? =some o→ ∀j∈lb o,j<i): ∀(fuel i:Nat) (listed:Array Bool) (a:Act) (w:World),listed.size=ops.size→i≤ops.size→(∀j o,i≤j→ops[j]? =some o→ ∀k,k<j→ ∃i' o',k<i'∧i'≤j∧ops[i']? =some o'∧k∈lb o')→
  (∀j,j<ops.size→(listed.getD j false=true↔j<i))→ops.size-i≤fuel→wpListIn F 0 P ops Q (ops.toList.drop i) a w→wpAnyIn F 0 P .any ops Q fuel listed a w:=by
 intro fuel
 induction fuel with
 |zero=>
  intro i listed a w cS hi _ hl hf h
  have w5:i=ops.size:=by omega
  subst w5
  have hr:Region.ready .any ops listed=[]:=by
   apply List.eq_nil_iff_forall_not_mem.2
   intro j hj
   obtain⟨h0,o,ho,_⟩:=ft.1 hj
   have bh:j<ops.size:=(Array.getElem?_eq_some_iff.1 ho).1
   rw[getD_lt (cS▸bh) true false]at h0
   rw[(hl j bh).2 bh]at h0
   cases h0
  rw[List.drop_of_length_le (by simp)]at h
  exact⟨hr,h⟩
 |succ fuel ih=>
  intro i listed a w cS hi ht hl hf h
  by_cases w5:i=ops.size
  ·subst w5
   have hr:Region.ready .any ops listed=[]:=by
    apply List.eq_nil_iff_forall_not_mem.2
    intro j hj
    obtain⟨h0,o,ho,_⟩:=ft.1 hj
    have bh:j<ops.size:=(Array.getElem?_eq_some_iff.1 ho).1
    rw[getD_lt (cS▸bh) true false]at h0
    rw[(hl j bh).2 bh]at h0
    cases h0
   rw[List.drop_of_length_le (by simp)]at h
   exact⟨fun _=>h,by rw[hr];simp⟩
  ·have bh:i<ops.size:=by omega
   have ho:ops[i]? =some ops[i]:=Array.getElem?_eq_getElem bh
   have je:i∈Region.ready .any ops listed:=by
    rw[ft]
    refine⟨?_,_,ho,fun k hk=>?_⟩
    ·rw[getD_lt (cS▸bh) true false]
     cases hc:listed.getD i false with
     |false=>rfl
     |true=>have:=(hl i bh).1 hc;omega
    ·have:=h1 i _ ho k hk
     exact(hl k (by omega)).2 this
   refine⟨fun h0=>(by rw[h0]at je;cases je),fun j hj=>?_⟩
   obtain⟨h0,o,qp,dh⟩:=ft.1 hj
   have Ou:j<ops.size:=(Array.getElem?_eq_some_iff.1 qp).1
   rw[getD_lt (cS▸Ou) true false]at h0
   have Vw:i≤j:=by
    rcases Nat.lt_or_ge j i with h|h
    ·rw[(hl j Ou).2 h]at h0;cases h0
    ·exact h
   have JN:j=i:=by
    rcases Nat.lt_or_ge i j with h|h
    ·obtain⟨i',o2,h5,h6,h7,h8⟩:=ht j o Vw qp (j-1) (by omega)
     obtain rfl:i'=j:=by omega
     rw[qp]at h7
     obtain rfl:=Option.some.inj h7
     have:=(hl (i'-1) (by omega)).1 (dh _ h8)
     omega
    ·omega
   subst JN
   have hd:ops.toList.drop j=ops[j]::ops.toList.drop (j+1):=by
    rw[List.drop_eq_getElem_cons (by simpa using bh)];simp
   rw[hd]at h
   have jK: ∀a' w',wpListIn F 0 P ops Q (ops.toList.drop (j+1)) a' w'→wpAnyIn F 0 P .any ops Q fuel (listed.setIfInBounds j true) a' w':=by
    intro a' w' h'
    refine ih (j+1) _ a' w' (by simpa using cS) (by omega) (fun j' o' wD=>ht j' o' (by omega)) (fun k hk=>?_) (by omega) h'
    by_cases S9:k=j
    ·subst S9
     simp[cS,bh]
    ·have:(listed.setIfInBounds j true).getD k false=listed.getD k false:=by
      simp only[Array.getD_eq_getD_getElem?]
      rw[Array.getElem?_setIfInBounds_ne (fun e=>S9 e.symm)]
     rw[this,hl k hk]
     omega
   unfold wpOpIn
   rw[ho]
   simp only
   simp only[wpListIn]at h
   split
   ·rename_i hw
    rw[if_pos hw]at h
    exact Oper.wpIn_mono jK h
   ·rename_i hw
    rw[if_neg hw]at h
    exact⟨h.1,jK _ _ h.2⟩
theorem lA{g:G}{a:Act}: ∀(js:List (Nat×Nat)) {l:Env} {k:Env→Prop},QA φs g js l k→Fr N ds l a→(∀p∈js,∃v,a.tmps[p.2]? =some v∧(gP φs p.1).p v g)→ ∃env,k env∧Fr N ds env a
 |[],l,k,h,ha,_=>⟨l,h,ha⟩
 |(j,d)::r,l,k,h,ha,hp=>by
  obtain⟨v,hv,hf⟩:=hp (j,d) (by simp)
  refine lA r (h v hf) ⟨ha.defers,ha.size,fun t u hu=>?_⟩ (fun p RE=>hp p (by simp[RE]))
  by_cases e:d=t
  ·subst e
   rw[cK]at hu
   rw[←hu];exact hv
  ·rw[bZ _ _ e]at hu
   exact ha.get t u hu
theorem gB.at{i0:Nat}: ∀{l:List Oper} {i0:Nat},gB F P N ds ops Q φs l0 gd i0 l→ ∀(j:Nat) o,l[j]? =some o→vF F P N ds ops Q φs l0 gd (i0+j) o
 |[],_,_,j,o,h=>by simp at h
 |x::l,i0,hs,0,o,h=>by
  simp only[List.getElem?_cons_zero,Option.some.injEq]at h
  subst h
  exact hs.1
 |x::l,i0,hs,j+1,o,h=>by
  simp only[List.getElem?_cons_succ]at h
  have:=gB.at (i0:=i0) hs.2 j o h
  rw[show i0+(j+1)=i0+1+j from by omega]
  exact this
theorem J3{id:Nat}{g:G}(hF: ∀f,F.fn f)(hm:P.follows .mixedOrders=true)(φs:List Fact)(m:Nat)(outs:List (Nat×Nat))(lH:qY N ops l0 m=true)
  (houts:outs.all (fun p=>Nat.blt p.1 m&&(dH ops p.1==some p.2))=true)
  (iJ:gB F P N ds ops Q φs l0 g.dr 0 (ops.toList.take m))
  (jT: ∀g',aZ g.dr g'→QA φs g' outs l0 fun env=>WL F P N ds ops Q (ops.toList.drop m) env g'.w):W F P N ds (.region id ops true) Q l0 g.w:=by
 intro a ha
 simp only[qY,Bool.and_eq_true,List.all_eq_true,List.mem_range]at lH
 obtain⟨⟨⟨c1,c2⟩,c3⟩,c4⟩:=lH
 have c4:m≤ops.size:=Nat.le_of_ble_eq_true c4
 have k1: ∀i o,ops[i]? =some o→ ∀j∈lb o,j<i:=by
  intro i o ho j hj
  have:=c1 i (Array.getElem?_eq_some_iff.1 ho).1
  rw[ho]at this
  have:=(List.all_eq_true.1 this) j hj
  simpa [Nat.blt_eq]using this
 have k2: ∀j o,m≤j→ops[j]? =some o→ ∀k,k<j→ ∃i' o',k<i'∧i'≤j∧ops[i']? =some o'∧k∈lb o':=by
  intro j o hj ho k hk
  have:=c2 j (Array.getElem?_eq_some_iff.1 ho).1
  simp only[Bool.or_eq_true]at this
  rcases this with h|h
  ·have:j<m:=by simpa [Nat.blt_eq]using h
   omega
  ·have:=(List.all_eq_true.1 h) k (List.mem_range.2 hk)
   obtain⟨i',h1,h2⟩:=List.any_eq_true.1 this
   simp only[Bool.and_eq_true]at h2
   have h3:=List.mem_range.1 h1
   cases qp:ops[i']? with
   |none=>rw[qp]at h2;simp at h2
   |some o'=>
    rw[qp]at h2
    exact⟨i',o',by simpa [Nat.blt_eq]using h2.1,by omega,qp,by simpa using h2.2⟩
 have k4: ∀(listed:Array Bool),(∀k o,listed.getD k false=true→ops[k]? =some o→ ∀e∈lb o,listed.getD e false=true)→ ∀j o,m≤j→ops[j]? =some o→(∀e∈lb o,listed.getD e false=true)→ ∀k,k<j→listed.getD k false=true:=by
  intro listed fY j o hj ho dh
  have: ∀d k,k<j→j-k=d→listed.getD k false=true:=by
   intro d
   induction d using Nat.strongRecOn with
   |_ d Cu=>
    intro k hk hd
    obtain⟨i',o',h1,h2,h3,h4⟩:=k2 j o hj ho k hk
    rcases Nat.lt_or_ge i' j with h|h
    ·exact fY i' o' (Cu (j-i') (by omega) i' h rfl) h3 k h4
    ·obtain rfl:i'=j:=by omega
     rw[ho]at h3
     obtain rfl:=Option.some.inj h3
     exact dh k h4
  exact fun k hk=>this _ k hk rfl
 have k3: ∀i,i<m→ ∃d,dH ops i=some d∧d<N∧lk l0 d=none∧ ∀j,j<m→j≠i→ ∃e,dH ops j=some e∧e≠d:=by
  intro i hi
  have:=c3 i hi
  cases hd:dH ops i with
  |none=>simp[hd]at this
  |some d=>
   simp only[hd,Bool.and_eq_true,List.all_eq_true,List.mem_range,Bool.or_eq_true]at this
   refine⟨d,rfl,by simpa [Nat.blt_eq]using this.1.1,by simpa using this.1.2,fun j hj fu=>?_⟩
   rcases this.2 j hj with h|h
   ·exact absurd (by simpa using h) fu
   ·cases he:dH ops j with
    |none=>simp[he]at h
    |some e=>exact⟨e,rfl,by simpa [he]using h⟩
 refine wpIn_region_any hm ?_
 have key: ∀(fuel:Nat) (listed:Array Bool) (a:Act) (g':G),listed.size=ops.size→aZ g.dr g'→Fr N ds l0 a→
   (∀i,i<m→listed.getD i false=true→ ∃d v,dH ops i=some d∧a.tmps[d]? =some v∧(gP φs i).p v g')→(∀j,m≤j→j<ops.size→listed.getD j false=false)→(∀k o,listed.getD k false=true→ops[k]? =some o→ ∀e∈lb o,listed.getD e false=true)→
   (ops.size-((List.range ops.size).filter fun i=>listed.getD i false).length≤fuel)→wpAnyIn F 0 P .any ops Q fuel listed a g'.w:=by
  intro fuel
  induction fuel with
  |zero=>
   intro listed a g' cS hf ha eV gN fY tO
   have dh: ∀j,j<ops.size→listed.getD j false=true:=by
    have hlen:((List.range ops.size).filter fun i=>listed.getD i false).length=(List.range ops.size).length:=by
     have:=List.length_filter_le (fun i=>listed.getD i false) (List.range ops.size)
     simp only[List.length_range]at this⊢
     omega
    have:=List.length_filter_eq_length_iff.1 hlen
    intro j hj
    exact this j (List.mem_range.2 hj)
   have DH:m=ops.size:=by
    rcases Nat.lt_or_ge m ops.size with h|h
    ·have:=gN m (Nat.le_refl _) h;rw[dh m h]at this;cases this
    ·omega
   obtain⟨env,hW,hZ⟩:=lA outs (jT g' hf) ha (fun p hp=>by
    have:=(List.all_eq_true.1 houts) p hp
    simp only[Bool.and_eq_true,beq_iff_eq]at this
    have bh:p.1<m:=by simpa [Nat.blt_eq]using this.1
    obtain⟨d,v,hd,hv,lB⟩:=eV p.1 bh (dh _ (by omega))
    rw[this.2]at hd
    obtain rfl:=Option.some.inj hd
    exact⟨v,hv,lB⟩)
   refine jM k1 0 ops.size listed a g'.w cS (Nat.le_refl _) (fun j o hj ho=>?_) (fun j hj=>⟨fun _=>hj,fun _=>dh j hj⟩) (by omega) (by rw[←DH];exact hW a hZ)
   have:=(Array.getElem?_eq_some_iff.1 ho).1
   omega
  |succ fuel ih=>
   intro listed a g' cS hf ha eV gN fY tO
   by_cases gD: ∀j,j<m→listed.getD j false=true
   ·obtain⟨env,hW,hZ⟩:=lA outs (jT g' hf) ha (fun p hp=>by
     have:=(List.all_eq_true.1 houts) p hp
     simp only[Bool.and_eq_true,beq_iff_eq]at this
     have bh:p.1<m:=by simpa [Nat.blt_eq]using this.1
     obtain⟨d,v,hd,hv,lB⟩:=eV p.1 bh (gD _ bh)
     rw[this.2]at hd
     obtain rfl:=Option.some.inj hd
     exact⟨v,hv,lB⟩)
    refine jM k1 (fuel+1) m listed a g'.w cS c4 (fun j o hj ho=>k2 j o hj ho) (fun j hj=>⟨fun h=>?_,fun h=>gD j h⟩) ?_ (hW a hZ)
    ·rcases Nat.lt_or_ge j m with h'|h'
     ·exact h'
     ·rw[gN j h' hj]at h;cases h
    ·have hle:((List.range ops.size).filter fun i=>listed.getD i false).length≤m:=by
      have oR:((List.range ops.size).filter fun i=>listed.getD i false).length≤((List.range ops.size).filter fun i=>decide (i<m)).length:=by
       refine List.Sublist.length_le ?_
       rw[show((List.range ops.size).filter fun i=>listed.getD i false)=((List.range ops.size).filter fun i=>decide (i<m)).filter (fun i=>listed.getD i false)from ?_]
       ·exact List.filter_sublist
       ·rw[List.filter_filter]
        refine List.filter_congr fun i hi=>?_
        have hi:=List.mem_range.1 hi
        by_cases h:i<m
        ·simp[h]
        ·rw[gN i (by omega) hi];simp
      have:((List.range ops.size).filter fun i=>decide (i<m)).length=m:=by
       have e:ops.size=m+(ops.size-m):=by omega
       rw[e,List.range_add,List.filter_append,List.length_append,List.filter_eq_self.2 (by intro x hx;simpa using hx),List.filter_eq_nil_iff.2 (by
        intro x hx
        obtain⟨y,_,rfl⟩:=List.mem_map.1 hx
        simp)]
       simp
      omega
     omega
   ·--qZ of zp first part is not listed:zp least JO is ready
    have hex: ∃j,j<m∧listed.getD j false=false∧ ∀k,k<j→listed.getD k false=true:=by
     have: ∃j,j<m∧listed.getD j false=false:=by
      apply Classical.byContradiction
      intro dy
      apply gD
      intro j hj
      cases hc:listed.getD j false with
      |true=>rfl
      |false=>exact absurd ⟨j,hj,hc⟩ dy
     obtain⟨j,hj⟩:=this
     induction j using Nat.strongRecOn with
     |_ j JP=>
      by_cases hk: ∃k,k<j∧listed.getD k false=false
      ·obtain⟨k,rS,CX⟩:=hk
       exact JP k rS ⟨by omega,CX⟩
      ·refine⟨j,hj.1,hj.2,fun k rS=>?_⟩
       cases hc:listed.getD k false with
       |true=>rfl
       |false=>exact absurd ⟨k,rS,hc⟩ hk
    obtain⟨j0,Re,Bo,tN⟩:=hex
    have je:j0∈Region.ready .any ops listed:=by
     rw[ft]
     have bh:j0<ops.size:=by omega
     refine⟨by rw[getD_lt (cS▸bh) true false];exact Bo,_,Array.getElem?_eq_getElem bh,fun k hk=>tN k (k1 j0 _ (Array.getElem?_eq_getElem bh) k hk)⟩
    refine⟨fun h0=>(by rw[h0]at je;cases je),fun i hi=>?_⟩
    obtain⟨h0,o,ho,dh⟩:=ft.1 hi
    have n_:i<ops.size:=(Array.getElem?_eq_some_iff.1 ho).1
    rw[getD_lt (cS▸n_) true false]at h0
    have oS:i<m:=by
     rcases Nat.lt_or_ge i m with h|h
     ·exact h
     ·have:=k4 listed fY i o h ho dh j0 (by omega);rw[Bo]at this;cases this
    obtain⟨d,hd,Rf,Rg,JQ⟩:=k3 i oS
    have tP:o.dst=some d:=by unfold dH at hd;rw[ho]at hd;exact hd
    have k_:=iJ.at (i0:=0) i o (by rw[List.getElem?_take_of_lt oS];simpa using ho)
    rw[Nat.zero_add]at k_
    have oT: ∀p∈eQ ops o,∃v,a.tmps[p.2]? =some v∧(gP φs p.1).p v g':=by
     intro p hp
     unfold eQ at hp
     obtain⟨j,hj,w6⟩:=List.mem_filterMap.1 hp
     cases zq:dH ops j with
     |none=>simp[zq]at w6
     |some e=>
      simp only[zq]at w6
      have JR:j<m:=by have:=k1 i o ho j hj;omega
      obtain⟨d',v,w7,hv,lB⟩:=eV j JR (dh j hj)
      rw[zq]at w7
      obtain rfl:=Option.some.inj w7
      cases hb:((By o).contains e||(match o.guard with|some (g,_)=>g==j|none=>false))with
      |false=>rw[hb]at w6;simp at w6
      |true=>
       rw[hb]at w6
       simp only[cond_true,Option.some.injEq]at w6
       subst w6
       exact⟨v,hv,lB⟩
    obtain⟨env,hk,hZ⟩:=lA (eQ ops o) (k_ g' hf) ha oT
    have jK: ∀(a':Act) (dP:G) (v:Value),a'=a.put o.dst v→aZ g' dP→(gP φs i).p v dP→wpAnyIn F 0 P .any ops Q fuel (listed.setIfInBounds i true) a' dP.w:=by
     intro a' dP v he eO lB
     have oU: ∀t,t≠d→a'.tmps[t]? =a.tmps[t]?:=fun t ht=>by
      rw[he,tP]
      simp only[Act.put]
      rw[Array.getElem?_setIfInBounds_ne (fun e=>ht e.symm)]
     have rq:a'.tmps[d]? =some v:=by
      rw[he,tP]
      simp only[Act.put]
      rw[Array.getElem?_setIfInBounds_self,if_pos (by rw[ha.size];exact Rf)]
     have iU: ∀k,k≠i→(listed.setIfInBounds i true).getD k false=listed.getD k false:=fun k hk=>by
      simp only[Array.getD_eq_getD_getElem?]
      rw[Array.getElem?_setIfInBounds_ne (fun e=>hk e.symm)]
     have d_:(listed.setIfInBounds i true).getD i false=true:=by simp[cS,n_]
     refine ih _ a' dP (by simpa using cS) (hf.trans eO) ⟨by rw[he,tP];exact ha.defers,by rw[he,tP];simp[Act.put,ha.size],fun t u hu=>?_⟩ (fun k hk j9=>?_) (fun j hj G3=>?_) (fun k o' hk Ae e he=>?_) ?_
     ·have KI:t≠d:=fun e=>by subst e;rw[Rg]at hu;cases hu
      rw[oU t KI];exact ha.get t u hu
     ·by_cases kK:k=i
      ·subst kK
       exact⟨d,v,hd,rq,lB⟩
      ·rw[iU k kK]at j9
       obtain⟨d',v',w7,ER,Af⟩:=eV k hk j9
       obtain⟨e,N_,KJ⟩:=JQ k hk kK
       rw[w7]at N_
       obtain rfl:=Option.some.inj N_
       exact⟨d',v',w7,by rw[oU d' KJ];exact ER,(gP φs k).mono _ _ _ eO Af⟩
     ·rw[iU j (by omega)]
      exact gN j hj G3
     ·have hle: ∀x,listed.getD x false=true→(listed.setIfInBounds i true).getD x false=true:=fun x hx=>by
       by_cases zJ:x=i
       ·subst zJ;exact d_
       ·rw[iU x zJ];exact hx
      by_cases kK:k=i
      ·subst kK
       rw[ho]at Ae
       obtain rfl:=Option.some.inj Ae
       exact hle e (dh e he)
      ·rw[iU k kK]at hk
       exact hle e (fY k o' hk Ae e he)
     ·have bh:((List.range ops.size).filter fun k=>listed.getD k false).length<((List.range ops.size).filter fun k=>(listed.setIfInBounds i true).getD k false).length:=by
       have oR:List.Sublist ((List.range ops.size).filter fun k=>listed.getD k false) ((List.range ops.size).filter fun k=>(listed.setIfInBounds i true).getD k false):=by
        have e:((List.range ops.size).filter fun k=>listed.getD k false)=((List.range ops.size).filter fun k=>(listed.setIfInBounds i true).getD k false).filter (fun k=>listed.getD k false):=by
         rw[List.filter_filter]
         refine List.filter_congr fun k _=>?_
         by_cases kK:k=i
         ·subst kK;rw[d_];simp
         ·rw[iU k kK];simp
        rw[e]
        exact List.filter_sublist
       refine Nat.lt_of_le_of_ne oR.length_le fun e=>?_
       have:=oR.eq_of_length e
       have Cw:i∈((List.range ops.size).filter fun k=>(listed.setIfInBounds i true).getD k false):=List.mem_filter.2 ⟨List.mem_range.2 n_,d_⟩
       rw[←this]at Cw
       have:=(List.mem_filter.1 Cw).2
       rw[h0]at this
       cases this
      omega
    unfold wpOpIn
    rw[ho]
    simp only
    cases hg:mJ ops env o.guard with
    |none=>rw[hg]at hk;exact hk.elim
    |some b=>
     have nq:Region.wanted o (yielded ops a.tmps)=b:=jN (l:=env) (o:=o) hg hZ
     rw[hg]at hk
     cases b with
     |true=>
      rw[if_pos nq]
      exact Oper.wpIn_mono (fun a' w' ⟨v,he,dP,hw,eO,lB⟩=>hw▸jK a' dP v he eO lB) (hk a hZ)
     |false=>
      rw[if_neg (by rw[nq];simp)]
      exact⟨fun f _=>hF f,jK _ g' undef rfl (aZ.refl _) hk⟩
 refine key ops.size _ a g.dr (by simp) (aZ.refl _) ha (fun i hi hl=>?_) (fun j _ hj=>by simp[hj]) (fun k o hl=>?_) (by omega)
 ·simp only[Array.getD_eq_getD_getElem?,Array.getElem?_replicate]at hl
  split at hl<;>simp at hl
 ·simp only[Array.getD_eq_getD_getElem?,Array.getElem?_replicate]at hl
  split at hl<;>simp at hl
end Go.K
namespace Go.K
open Go Go.RowKit
variable {F:Fence} {P:Program} {N:Nat} {ds:List Deferred} {l l':Env} {a:Act} {w:World} {Q:Exit→Act→World→Prop} {ops:Array Oper} {os:List Oper} {o:Oper}
variable {g0 g:G} {L:List cV} {K:Value→World→Prop} {R:Ending→World→Prop}
def ml:Nat→List Value→Env
 |_,[]=>[]
 |i,v::r=>(i,v)::ml (i+1) r
theorem vO: ∀(vs:List Value) (i t:Nat) (v:Value),lk (ml i vs) t=some v→ ∃j,t=i+j∧vs[j]? =some v
 |[],i,t,v,h=>by simp[ml,lk]at h
 |u::r,i,t,v,h=>by
  by_cases e:i=t
  ·subst e
   simp only[ml,cK,Option.some.injEq]at h
   exact⟨0,rfl,by simp[h]⟩
  ·simp only[ml,bZ _ _ e]at h
   obtain⟨j,rfl,hj⟩:=vO r (i+1) t v h
   exact⟨j+1,by omega,by simpa using hj⟩
theorem tV(args:Array Value)(N:Nat)(h:Nat.ble args.size N=true):Fr N [] (ml 0 args.toList) {tmps:=args++Array.replicate (N-args.size) undef,defers:=[]}:=by
 have h:=Nat.le_of_ble_eq_true h
 refine⟨rfl,by simp;omega,fun t v hv=>?_⟩
 obtain⟨j,rfl,hj⟩:=vO _ _ _ _ hv
 have wD:args[j]? =some v:=by simpa using hj
 have bh:=(Array.getElem?_eq_some_iff.1 wD).1
 rw[Nat.zero_add,Array.getElem?_append_left bh,wD]
abbrev Wd:Fence:=Fence.wide
theorem enter{f:FuncId}{fn:Func}{c:Code}{args:Array Value}(hf:P.funcs[f]? =some fn)(hb:fn.body=some c)(hN:fn.ntmps=N)(hle:Nat.ble args.size N=true)
  (h:W Wd P N [] c (bodyPost P fn R) (ml 0 args.toList) w):CallsIn Wd 0 P f args w R:=by
 refine callsIn_of_wp hf hb trivial ?_
 rw[hN]
 exact h _ (tV args N hle)
theorem qH{f:FuncId}{fn:Func}{c:Code}{args:Array Value}(hf:P.funcs[f]? =some fn)(hb:fn.body=some c)(hN:fn.ntmps=N)(hle:Nat.ble args.size N=true)
  (h:W Wd P N [] c (bodyPostM Wd 0 P fn R) (ml 0 args.toList) w):CallsIn Wd 0 P f args w R:=by
 refine callsIn_of_wp_marks hf hb trivial ?_
 rw[hN]
 exact h _ (tV args N hle)
theorem rR{fn:Func}(hr:fn.results=#[])(hR:R (.returned (.tuple #[])) w)(a:Act)(ha:Fr N [] l a):bodyPost P fn R .ret a w:=
 ⟨ha.defers,_,results_none hr _ _ _,hR⟩
theorem mv{fn:Func}(hr:fn.results=#[])(hR:R (.returned (.tuple #[])) w)(a:Act)(ha:Fr N [] l a):bodyPost P fn R .normal a w:=
 ⟨ha.defers,_,results_none hr _ _ _,hR⟩
theorem xr{t:Nat}{v:Value}(ha:Fr N ds l a)(h:lk l t=some v):a.tmps.getD t undef=v:=by
 simp[Array.getD_eq_getD_getElem?,ha.get t v h]
theorem aV{fn:Func}{t:Nat}{v:Value}(hr:fn.results=#[.tmp t])(hl:lk l t=some v)(hR:R (.returned v) w)(a:Act)(ha:Fr N [] l a):bodyPost P fn R .ret a w:=
 ⟨ha.defers,_,results_tmp hr _ _ _,by rw[xr ha hl];exact hR⟩
theorem rT{fn:Func}{t u:Nat}{v x:Value}(hr:fn.results=#[.tmp t,.tmp u])(hl:lk l t=some v)(sP:lk l u=some x)(hR:R (.returned (.tuple #[v,x])) w)(a:Act)(ha:Fr N [] l a):bodyPost P fn R .ret a w:=
 ⟨ha.defers,_,results_tmp2 hr _ _ _,by rw[xr ha hl,xr ha sP];exact hR⟩
theorem kJ{fn:Func}{tb:Tb}(dn:tb.ok P)(i:Nat){t T b:Nat}{cs:List Value}{E:TypeId}{fz:Nat×Nat}{v:Value}(hr:fn.results=#[.cell t T])(hs:St g0 g L)(hi:L[i]? =some (.obj b (.cells cs.toArray E fz)))
  (hl:lk l t=some (.pointer (some ⟨b,0,none⟩))) (hv:ve tb T cs 0=some v) (hR:R (.returned v) g.w) (a:Act) (ha:Fr N [] l a):bodyPost P fn R .ret a g.w:=by
 refine⟨ha.defers,v,?_,hR⟩
 have:=iR (P:=P) (w:=g.w) (off:=0) (o:=0) dn hv (kg (hs.own i _ hi).2.1)
 simp only[Nat.add_zero]at this
 simp[results,hr,ha.get t _ hl,asAddr,this]
def places(tb:Tb)(fs:List (TypeId×Nat)):List (Option (Nat×Nat)):=fs.map fun(t,off)=>(tl tb t).map fun i=>(off,i.size)
theorem aQ{tb:Tb}(dn:tb.ok P){t:Nat}{ti:TI}{fs:List (TypeId×Nat)}{parts:Array (Nat×Operand)}{vs:List (Nat×Value)}{cells:List Value}(ho:o.op= .build t parts)
  (hp:rP l (parts.toList.map (·.2))=some (vs.map (·.2))) (wk:parts.toList.map (·.1)=vs.map (·.1)) (hi:tl tb t=some ti) (hd:ti.desc= .struct fs) (pl:List (Nat×Nat)) (AX:places tb fs=pl.map some)
  (mT:Instr.fill (fun i=>pl.toArray[i]?) ti.zero.cells vs=some cells.toArray) (k:K (.agg cells.toArray) w):cT F P N ds o l w Q K:=by
 obtain⟨⟨dd,hu,he⟩,inf,e1,e2,e3,e4⟩:=dn.at hi
 rw[hd]at he
 obtain⟨O',rfl,rfl⟩:=KD.of_struct he
 refine bG (fun c=>⟨by rw[ho];simp,by rw[ho];simp⟩) (fun a ha=>?_) k
 have Cx:List.map (fun x:Nat×Operand=>(x.fst,a.eval x.snd)) parts.toList=vs:=by
  have h2:=iA ha hp
  rw[List.map_map]at h2
  have h3:parts.toList.map (fun p=>(p.1,a.eval p.2))=(parts.toList.map (·.1)).zip (parts.toList.map (fun p=>a.eval p.2)):=by rw[List.zip_map']
  have h4:vs=(vs.map (·.1)).zip (vs.map (·.2)):=by rw[List.zip_map'];simp
  rw[h4,←wk,←h2]
  exact h3
 have Hf: ∀(xs:List Field) (pl:List (Nat×Nat)),places tb (xs.map fun f=>(f.type,f.offset))=pl.map some→(xs.mapM fun f=>do pure (f.offset,←sizeOf f.type):Sem (List (Nat×Nat))).run P w= .ok pl w:=by
  intro xs
  induction xs with
  |nil=>intro pl h;cases pl with
   |nil=>rfl
   |cons _ _=>simp[places]at h
  |cons f xs ih=>
   intro pl h
   cases pl with
   |nil=>simp[places]at h
   |cons q pl=>
    simp only[places,List.map_cons,List.cons.injEq]at h
    obtain⟨h1,h2⟩:=h
    cases hj:tl tb f.type with
    |none=>rw[hj]at h1;cases h1
    |some j=>
     rw[hj]at h1
     simp only[Option.map_some,Option.some.injEq]at h1
     obtain⟨_,Rn,f1,f2,_⟩:=dn.at hj
     have:=ih pl h2
     simp only[List.mapM_cons,Sem.run_bind,sizeOf,typeInfo,run_program,Result.andThen_ok,f1,Sem.run_pure,f2]at this⊢
     simp only[this,Result.andThen_ok,h1]
 have hm:=Hf O'.toList pl AX
 have Vx:(O'.mapM fun f=>do pure (f.offset,←sizeOf f.type):Sem (Array (Nat×Nat))).run P w= .ok pl.toArray w:=by
  rw[Array.mapM_eq_mapM_toList]
  simp only[Sem.run_map,hm,Result.andThen_ok]
 have hz:(zeroValue t).run P w= .ok ti.zero w:=by simp[zeroValue,typeInfo,e1,e4]
 simp only[execOp,ho,Instr.build,Sem.run_bind,hz,Result.andThen_ok,run_underlying hu,Vx,Array.toList_map,Cx,mT]
 simp
theorem df{tb:Tb}(dn:tb.ok P){t e n:Nat}{i j:TI}{x ix:Operand}{kk:IntKind}{q b p:Nat}(ho:o.op= .indexAddr t x ix)(hx:ev l x=some (.pointer (some ⟨b,p,none⟩)))(G_:ev l ix=some (.int kk (q:Int)))
  (hi:tl tb t=some i) (hd:i.desc= .arr n e) (hj:tl tb e=some j) (hq:q<n) (k:K (.pointer (some ⟨b,p+q*j.size,none⟩)) w):cT F P N ds o l w Q K:=by
 obtain⟨⟨dd,hu,he⟩,_⟩:=dn.at hi
 rw[hd]at he
 obtain rfl:=KD.zN he
 obtain⟨_,inf,e1,e2,_⟩:=dn.at hj
 refine bG (fun c=>⟨by rw[ho];simp,by rw[ho];simp⟩) (fun a ha=>?_) k
 have h1:(q:Int)<(n:Int):=by omega
 simp[execOp,ho,ha.ev hx,ha.ev G_,Instr.indexAt,asIntOf,run_underlying hu,Instr.sureAddr,hq,sizeOf,typeInfo,e1,e2,Addr.add_lit]
theorem KD.J6{d:TypeDesc}{e:TypeId}(h:KD.of d= .ptr e):d= .pointer e:=by
 cases d<;>simp only[KD.of,reduceCtorEq,KD.ptr.injEq]at h
 rw[h]
theorem fS{tb:Tb}(dn:tb.ok P){t e t':Nat}{i:TI}{x y:Operand}{neg:Bool}{ad:Option Addr}{n c n' c':Nat}(ho:o.op= .binOp (if neg then .neq else .eql) t x y t')(hx:ev l x=some (.slice ad n c))(hy:ev l y=some (.slice none n' c'))
  (hi:tl tb t=some i) (hd:i.desc= .slice e) (k:K (.bool (neg !=ad.isNone)) w):cT F P N ds o l w Q K:=by
 obtain⟨⟨dd,hu,he⟩,_⟩:=dn.at hi
 rw[hd]at he
 obtain rfl:=KD.of_slice he
 refine bG (fun c=>⟨by rw[ho];simp,by rw[ho];simp⟩) (fun a ha=>?_) k
 have hg: ∀op,(eqGuard op t x y (.slice ad n c) (.slice none n' c')).run P w= .ok () w:=fun op=>by unfold eqGuard;split<;>rfl
 have hq: ∀d,(Op.equalIn (d+1) t (.slice ad n c) (.slice none n' c')).run P w= .ok ad.isNone w:=fun d=>by
  cases ad<;>simp[Op.equalIn,run_underlying hu]
 have heq:(Op.equal t (.slice ad n c) (.slice none n' c')).run P w= .ok ad.isNone w:=hq 9999
 cases neg<;>simp[execOp,ho,ha.ev hx,ha.ev hy,hg,binOp,heq]
theorem gS{tb:Tb}(dn:tb.ok P){t e t':Nat}{i:TI}{x y:Operand}{neg:Bool}{ad:Option Addr}(ho:o.op= .binOp (if neg then .neq else .eql) t x y t')(hx:ev l x=some (.pointer ad))(hy:ev l y=some (.pointer none))
  (hi:tl tb t=some i) (hd:i.desc= .ptr e) (k:K (.bool (neg !=ad.isNone)) w):cT F P N ds o l w Q K:=by
 obtain⟨⟨dd,hu,he⟩,_⟩:=dn.at hi
 rw[hd]at he
 obtain rfl:=KD.J6 he
 refine bG (fun c=>⟨by rw[ho];simp,by rw[ho];simp⟩) (fun a ha=>?_) k
 have hg: ∀op,(eqGuard op t x y (.pointer ad) (.pointer none)).run P w= .ok () w:=fun op=>by unfold eqGuard;split<;>rfl
 have hq: ∀d,(Op.equalIn (d+1) t (.pointer ad) (.pointer none)).run P w= .ok ad.isNone w:=fun d=>by
  cases ad<;>simp[Op.equalIn,run_underlying hu]
 have heq:(Op.equal t (.pointer ad) (.pointer none)).run P w= .ok ad.isNone w:=hq 9999
 cases neg<;>simp[execOp,ho,ha.ev hx,ha.ev hy,hg,binOp,heq]
def cR(g:G)(R:G→Value→Prop):Ending→World→Prop:=fun e w'=> ∃g' v,g'.w=w'∧aZ g g'∧e= .returned v∧R g' v
theorem St.ret{R:G→Value→Prop}{v:Value}(hs:St g0 g L)(h:R g v):cR g0 R (.returned v) g.w:=⟨g,v,rfl,hs.mS,rfl,h⟩
theorem ay{R:G→Value→Prop}{f:FuncId}(hc:ag P f)(hF: ∀f,F.fn f)(tQ:F.depth=none){x:Operand}{args:Array Operand}{ts:Array TypeId}{first captured:Array Value}{vs aa:List Value}
  (ho:o.op= .call {callee:=.value x,args,argTypes:=ts}) (hx:ev l x=some (.func (.func f) first captured)) (ha:rP l args.toList=some vs) (has:first.toList++vs++captured.toList=aa)
  (h:CallsIn F 0 P f aa.toArray g.w (cR g R)) (k: ∀g' v,aZ g g'→R g' v→K v g'.w):cT F P N ds o l g.w Q K:=
 ni hc hF tQ ho hx ha has (CallsIn.mono h fun _ _ ⟨g',v,hw,hf,he,hr⟩=>⟨v,he,hw▸k g' v hf hr⟩)
end Go.K
namespace Go.K
open Go Go.RowKit
variable {F:Fence} {P:Program} {N:Nat} {ds:List Deferred} {l l':Env} {a:Act} {w:World} {Q:Exit→Act→World→Prop} {ops:Array Oper} {os:List Oper} {o:Oper}
variable {g0 g:G} {L:List cV} {K:Value→World→Prop} {R:Ending→World→Prop}
def ir(P:Program)(fv:Value)(args:List Value)(w:World)(R:Ending→World→Prop):Prop:=
 match fv with
 | .func (.func f) first captured=>ag P f∧CallsIn Wd 0 P f (first.toList++args++captured.toList).toArray w R
 | .func (.yield l) first _=> ∃fn tmps assign body,(Instr.yield l (first++args.toArray)).run P w= .ok (.round l fn tmps assign body) w∧RoundIn Wd 0 P l fn tmps assign body w R
 |_=>False
theorem ir.mono{fv:Value}{args:List Value}{R R':Ending→World→Prop}(h:ir P fv args w R)(hr: ∀e w',R e w'→R' e w'):ir P fv args w R':=by
 unfold ir at h⊢
 split
 ·simp only at h;exact⟨h.1,h.2.mono hr⟩
 ·simp only at h;obtain⟨fn,tmps,aa,bo,h1,h2⟩:=h;exact⟨fn,tmps,aa,bo,h1,h2.mono hr⟩
 ·rename_i h1 h2
  split at h
  ·exact(h1 _ _ _ rfl).elim
  ·exact(h2 _ _ _ rfl).elim
  ·exact h.elim
theorem CallsIn.qx{f:FuncId}{args:Array Value}(hF:F.fn=Wd.fn)(hd:F.depth=none)(ha:F.alive=false)(h:CallsIn Wd 0 P f args w R):CallsIn F 0 P f args w R:=by
 obtain⟨fn,dep,al,ro⟩:=F
 simp only at hF hd ha
 subst hF;subst hd;subst ha
 exact h
theorem RoundIn.qx{k:Nat}{f:FuncId}{tmps:Array Value}{aa bo:Code}(hF:F.fn=Wd.fn)(hd:F.depth=none)(ha:F.alive=false)(h:RoundIn Wd 0 P k f tmps aa bo w R):RoundIn F 0 P k f tmps aa bo w R:=by
 obtain⟨fn,dep,al,ro⟩:=F
 simp only at hF hd ha
 subst hF;subst hd;subst ha
 exact h
theorem eT(hF:F.fn=Wd.fn)(hd:F.depth=none)(zI:F.alive=false){x:Operand}{args:Array Operand}{ts:Array TypeId}{fv:Value}{vs:List Value}
  (ho:o.op= .call {callee:=.value x,args,argTypes:=ts}) (hx:ev l x=some fv) (ha:rP l args.toList=some vs)
  (h:ir P fv vs w fun e w'=> ∃v,e= .returned v∧K v w'):cT F P N ds o l w Q K:=by
 unfold ir at h
 split at h
 ·rename_i f first captured
  exact ni h.1 (by intro f;rw[hF];trivial) hd ho hx ha rfl (CallsIn.qx hF hd zI h.2)
 ·rename_i k first captured
  obtain⟨fn,tmps,aa,bo,h1,h2⟩:=h
  intro a C4
  unfold Oper.wpIn
  refine⟨fun f _=>by rw[hF];trivial,?_⟩
  have pT:args.map a.eval=vs.toArray:=by apply Array.ext';simpa using iA C4 ha
  rw[Oper.semAt_eq _ _ _ (fun c e=>by rw[ho]at e;cases e)]
  have jf:(execOp a.eval o).run P w= .ok (.round k fn tmps aa bo) w:=by
   simp only[execOp,ho,Sem.run_bind,resolve,C4.ev hx,Deferred.ofValue,Sem.run_pure,Result.andThen_ok,invoke,pT]
   exact h1
  rw[jf]
  refine⟨fun h=>(by rw[hd]at h;cases h),?_⟩
  refine RoundIn.mono (RoundIn.qx hF hd zI h2) fun e w' ⟨v,he,hk⟩=>?_
  subst he
  exact⟨v,rfl,hk⟩
 ·exact h.elim
def sM{α:Type}(P:Program)(jR:FuncId)(eG:Array Value)(fU:α→List Value)(xs:List α)(g:G):Prop:=
 ∀(g1:G),g.le g1→ ∀(yv:Value) (J Jx:List α→G→Prop),(∀pre g g',aZ g g'→J pre g→J pre g')→(∀pre g g',aZ g g'→Jx pre g→Jx pre g')→
  (∀pre x rest g2,xs=pre++x::rest→g1.le g2→J pre g2→ir P yv (fU x) g2.w fun e w'=> ∃g3 b,g3.w=w'∧e= .returned (.bool b)∧g2.le g3∧(b=true→J (pre++[x]) g3)∧(b=false→Jx (pre++[x]) g3))→
  J [] g1→CallsIn Wd 0 P jR (yv::eG.toList).toArray g1.w fun e w'=> ∃g2 v,g2.w=w'∧e= .returned v∧g1.le g2∧(J xs g2∨ ∃pre,pre<+:xs∧Jx pre g2)
theorem sM.mono{α:Type}{jR:FuncId}{eG:Array Value}{fU:α→List Value}{xs:List α}{g g':G}(h:sM P jR eG fU xs g)(hle:g.le g'):sM P jR eG fU xs g':=
 fun g1 h1=>h g1 (hle.trans h1)
def jE:List Tmp→List Value→Env→Env
 |t::ts,v::vs,l=>jE ts vs ((t,v)::l)
 |_,_,l=>l
theorem xe: ∀(ts:List Tmp) (vs:List Value) (l:Env) (tm:Array Value),(ts.all fun t=>Nat.blt t N)=true→Fr N [] l {tmps:=tm,defers:=[]}→
  Fr N [] (jE ts vs l) {tmps:=(ts.zip vs).foldl (fun tmps (t,a)=>tmps.setIfInBounds t a) tm,defers:=[]}
 |[],vs,l,tm,_,h=>by cases vs<;>exact h
 |t::ts,[],l,tm,_,h=>h
 |t::ts,v::vs,l,tm,hb,h=>by
  simp only[List.all_cons,Bool.and_eq_true]at hb
  refine xe ts vs ((t,v)::l) (tm.setIfInBounds t v) hb.2 ?_
  exact h.put (d:=some t) hb.1 v
def iV(fn:FuncId)(tmps:Array Value)(ps:Array Tmp)(assign body:Code)(D:Nat)(st:LoopState)(RJ:Option Code):Obj:=
 .loop {state:=st,pending:=RJ,fn,tmps,params:=ps,assign,body,defers:=D}
abbrev fM:Obj:=.deferred (some [])
def Aj(I:List cV→G→Prop)(Ix:Code→List cV→G→Prop)(g0 gr:G)(lp D:Nat)(ro:LoopState→Obj):Exit→Act→World→Prop
 | .normal,_,w=> ∃L' g',g'.w=w∧St g0 g' (.obj lp (ro .busy):: .obj D fM::L')∧gr.le g'∧I L' g'
 | .ret,_,w=> ∃L' g',g'.w=w∧St g0 g' (.obj lp (ro .busy):: .obj D fM::L')∧gr.le g'∧Ix .ret L' g'
 | .exit id,_,w=> ∃L' g',g'.w=w∧St g0 g' (.obj lp (ro .busy):: .obj D fM::L')∧gr.le g'∧Ix (.exit id) L' g'
 |_,_,_=>False
def G.po(g:G)(b:Nat)(o:Obj):G:=⟨g.w.putObj b o,g.im,fun x h=>by have:=g.lt x h;simpa using this⟩
theorem xt(w:World)(b:Nat)(o:Obj):w.grownBy (w.putObj b o) (some b):=
 ⟨rfl,rfl,rfl,by simp,fun k _ hk=>World.putObj_heap_other (fun e=>hk (congrArg some e))⟩
theorem St.po{i b:Nat}{o o':Obj}(hs:St g0 g L)(hi:L[i]? =some (.obj b o)):St g0 (g.po b o') (L.set i (.obj b o'))∧g.le (g.po b o'):=by
 have hh:=(hs.own i _ hi).2.1
 exact hs.FV hi (xt _ _ _) (fun _ _=>Iff.rfl) ⟨(hs.own i _ hi).1,World.putObj_heap_same (Array.getElem?_eq_some_iff.1 hh).1,(hs.own i _ hi).2.2⟩ (fun b' rQ=> .inl rQ)
theorem AY{α:Type}{jR:FuncId}{eG:Array Value}{fU:α→List Value}{xs:List α}{f:Operand}{ps:Array Tmp}{assign body:Code}
  (hs:St g0 g L) (hf:ev l f=some (.func (.func jR) #[] eG)) (nh:ag P jR) (qG:sM P jR eG fU xs g) (sO:(ps.toList.all fun t=>Nat.blt t N)=true) (Od: ∀x,(fU x).length=ps.size)
  (I:List α→List cV→G→Prop) (Ix:Code→List α→List cV→G→Prop) (hI: ∀pre L g g',g.le g'→I pre L g→I pre L g') (zo: ∀c pre L g g',g.le g'→Ix c pre L g→Ix c pre L g')
  (h0:I [] L g) (la:α→Env)
  (pU: ∀x ro w,W {Wd with round:=some ro} P N [] assign (Exit.then (fun a w'=>w'=w∧Fr N [] (la x) a) (fun _ _ _=>False)) (jE ps.toList (fU x) l) w)
  (pV: ∀lp D ro pre x rest gr Lr,xs=pre++x::rest→g.le gr→St g0 gr (.obj lp (ro .busy):: .obj D fM::Lr)→I pre Lr gr→
   W {Wd with round:=some lp} P N [] body (Aj (I (pre++[x])) (fun c=>Ix c (pre++[x])) g0 gr lp D ro) (la x) gr.w)
  (jT: ∀lp D o Lr ge,g.le ge→St g0 ge (.obj lp o:: .obj D fM::Lr)→I xs Lr ge→ ∀a,Fr N (⟨.collected D,#[]⟩::ds) l a→Q .normal a ge.w)
  (yG: ∀c lp D o pre Lr ge,pre<+:xs→g.le ge→St g0 ge (.obj lp o:: .obj D fM::Lr)→Ix c pre Lr ge→W Wd P N (⟨.collected D,#[]⟩::ds) c Q l ge.w):
  W Wd P N ds (.rangeFunc f ps assign body) Q l g.w:=by
 intro a ha
 refine wpIn_rangeFunc fun fn _=>?_
 let ro:LoopState→Obj:=fun st=>iV fn a.tmps ps assign body g.w.heap.size st none
 have mK:=hs.al fM
 have aU:=mK.1.al (ro .ready)
 have cS:(g.al fM).w.heap.size=g.w.heap.size+1:=by simp[G.al]
 let g2:=(g.al fM).al (ro .ready)
 have sb:g.le g2:=mK.2.trans aU.2
 refine⟨g.w.heap.size+1,[⟨.collected g.w.heap.size,#[]⟩],g2.w,⟨.fn (.func jR) eG,#[.func (.yield (g.w.heap.size+1)) #[] #[]]⟩,g2.w,jR,(.func (.yield (g.w.heap.size+1)) #[] #[]::eG.toList).toArray,g2.w,?_,?_,fun _ _=>trivial,?_,fun h=>(by cases h),?_⟩
 ·exact run_enterLoop_outer fn a.tmps ps assign body
 ·simp only[resolve,ha.ev hf,Deferred.ofValue]
  simp[Act.eval,g2]
 ·have e:#[Value.func (.yield (g.w.heap.size+1)) #[] #[]]++eG=(.func (.yield (g.w.heap.size+1)) #[] #[]::eG.toList).toArray:=by apply Array.ext';simp
  rw[←e]
  exact gV nh _
 ·--zp tT pR,with Oe holds Bq zp rounds
  have xd:St g0 g2 (.obj (g.w.heap.size+1) (ro .ready):: .obj g.w.heap.size fM::L):=by
   have:=aU.1
   rw[cS]at this
   exact this
  refine CallsIn.mono (qG g2 sb (.func (.yield (g.w.heap.size+1)) #[] #[])
   (fun pre g'=>g.le g'∧ ∃Lr,St g0 g' (.obj (g.w.heap.size+1) (ro .ready):: .obj g.w.heap.size fM::Lr)∧I pre Lr g')
   (fun pre g'=>g.le g'∧ ∃c Lr,St g0 g' (.obj (g.w.heap.size+1) (iV fn a.tmps ps assign body g.w.heap.size .done (some c)):: .obj g.w.heap.size fM::Lr)∧Ix c pre Lr g')
   (fun pre ga gb hf ⟨h1,Lr,h2,h3⟩=>⟨h1.trans hf.le,Lr,h2.call hf,hI _ _ _ _ hf.le h3⟩)
   (fun pre ga gb hf ⟨h1,c,Lr,h2,h3⟩=>⟨h1.trans hf.le,c,Lr,h2.call hf,zo _ _ _ _ _ hf.le h3⟩) ?_ ⟨sb,L,xd,hI _ _ _ _ sb h0⟩) ?_
  ·--one round
   rintro pre x rest gp jm Of ⟨oV,Lr,dm,hi⟩
   have mi:gp.w.heap[g.w.heap.size+1]? =some (ro .ready):=(dm.own 0 _ rfl).2.1
   refine⟨fn,_,assign,body,run_yield mi (by simpa [iV]using Od x),?_⟩
   refine roundIn_of_wpIn trivial ?_
   have Cv:Fr N [] (jE ps.toList (fU x) l) {tmps:=(ps.zip (#[]++(fU x).toArray)).foldl (fun tmps (x:Nat×Value)=>tmps.setIfInBounds x.1 x.2) a.tmps,defers:=[]}:=by
    have h:=xe (N:=N) ps.toList (fU x) l a.tmps sO ⟨rfl,ha.size,ha.get⟩
    have e:(ps.zip (#[]++(fU x).toArray)).foldl (fun tmps (x:Nat×Value)=>tmps.setIfInBounds x.1 x.2) a.tmps=(ps.toList.zip (fU x)).foldl (fun tmps (x:Nat×Value)=>tmps.setIfInBounds x.1 x.2) a.tmps:=by
     rw[←Array.foldl_toList];simp
    rw[e]
    exact h
   refine Go.wpIn_mono (pU x (g.w.heap.size+1) gp.w _ Cv) fun e a1 w1 he=>?_
   cases e with
   |normal=>
    obtain⟨rfl,xf⟩:=he
    have hb:=dm.po (i:=0) (o':=ro .busy) rfl
    refine⟨(gp.po (g.w.heap.size+1) (ro .busy)).w,run_beginRound mi rfl,?_⟩
    have EX:St g0 (gp.po (g.w.heap.size+1) (ro .busy)) (.obj (g.w.heap.size+1) (ro .busy):: .obj g.w.heap.size fM::Lr):=hb.1
    refine Go.wpIn_mono (pV _ _ ro pre x rest _ Lr jm (oV.trans hb.2) EX (hI _ _ _ _ hb.2 hi) a1 xf) fun e a2 w2 he=>?_
    cases e with
    |normal=>
     obtain⟨L',g',rfl,jO,fL,hi'⟩:=he
     have jP:g'.w.heap[g.w.heap.size+1]? =some (ro .busy):=(jO.own 0 _ rfl).2.1
     have hp:=jO.po (i:=0) (o':=ro .ready) rfl
     refine⟨_,_,run_endRound none jP,g'.po (g.w.heap.size+1) (ro .ready),true,rfl,rfl,(hb.2.trans fL).trans hp.2,fun _=>⟨((oV.trans hb.2).trans fL).trans hp.2,L',hp.1,hI _ _ _ _ hp.2 hi'⟩,fun h=>(by cases h)⟩
    |ret=>
     obtain⟨L',g',rfl,jO,fL,hi'⟩:=he
     have jP:g'.w.heap[g.w.heap.size+1]? =some (ro .busy):=(jO.own 0 _ rfl).2.1
     have hp:=jO.po (i:=0) (o':=iV fn a.tmps ps assign body g.w.heap.size .done (some .ret)) rfl
     refine⟨_,_,run_endRound (some .ret) jP,g'.po (g.w.heap.size+1) (iV fn a.tmps ps assign body g.w.heap.size .done (some .ret)),false,rfl,rfl,(hb.2.trans fL).trans hp.2,fun h=>(by cases h),
      fun _=>⟨((oV.trans hb.2).trans fL).trans hp.2,.ret,L',hp.1,zo _ _ _ _ _ hp.2 hi'⟩⟩
    |exit id=>
     obtain⟨L',g',rfl,jO,fL,hi'⟩:=he
     have jP:g'.w.heap[g.w.heap.size+1]? =some (ro .busy):=(jO.own 0 _ rfl).2.1
     have hp:=jO.po (i:=0) (o':=iV fn a.tmps ps assign body g.w.heap.size .done (some (.exit id))) rfl
     refine⟨_,_,run_endRound (some (.exit id)) jP,g'.po (g.w.heap.size+1) (iV fn a.tmps ps assign body g.w.heap.size .done (some (.exit id))),false,rfl,rfl,(hb.2.trans fL).trans hp.2,fun h=>(by cases h),
      fun _=>⟨((oV.trans hb.2).trans fL).trans hp.2,.exit id,L',hp.1,zo _ _ _ _ _ hp.2 hi'⟩⟩
    |goto t=>exact he.elim
    |panic c=>exact he.elim
    |outgrown=>exact he.elim
   |exit id=>exact he.elim
   |goto t=>exact he.elim
   |ret=>exact he.elim
   |panic c=>exact he.elim
   |outgrown=>exact he.elim
  ·--zp iterator has ended
   rintro e w' ⟨ge,v,rfl,rfl,fL,h⟩
   have yH:Fr N (⟨.collected g.w.heap.size,#[]⟩::ds) l {a with defers:=[⟨.collected g.w.heap.size,#[]⟩]++a.defers}:=⟨by simp[ha.defers],ha.size,ha.get⟩
   rcases h with⟨hle,Lr,dm,hi⟩|⟨pre,gD,hle,c,Lr,dm,hi⟩
   ·have mi:ge.w.heap[g.w.heap.size+1]? =some (ro .ready):=(dm.own 0 _ rfl).2.1
    have hp:=dm.po (i:=0) (o':=iV fn a.tmps ps assign body g.w.heap.size .exhausted none) rfl
    exact⟨none,_,run_endLoop mi (by simp),jT _ _ _ Lr (ge.po _ _) (hle.trans hp.2) hp.1 (hI _ _ _ _ hp.2 hi) _ yH⟩
   ·have mi:ge.w.heap[g.w.heap.size+1]? =some (iV fn a.tmps ps assign body g.w.heap.size .done (some c)):=(dm.own 0 _ rfl).2.1
    have hp:=dm.po (i:=0) (o':=iV fn a.tmps ps assign body g.w.heap.size .exhausted (some c)) rfl
    exact⟨some c,_,run_endLoop mi (by simp),yG c _ _ _ pre Lr (ge.po _ _) gD (hle.trans hp.2) hp.1 (zo _ _ _ _ _ hp.2 hi) _ yH⟩
theorem w3{fn:Func}{tmps:Array Value}{D i:Nat}{ds:List Deferred}(hs:St g0 g L)(hi:L[i]? =some (.obj D fM))
  (h:LeavesInM Wd 0 P fn tmps R ds .returning (g.po D (.deferred none)).w):LeavesInM Wd 0 P fn tmps R (⟨.collected D,#[]⟩::ds) .returning g.w:=
 ⟨by simp,.inl ⟨D,_,rfl,run_takeDeferred (hs.own i _ hi).2.1,h⟩⟩
end Go.K
namespace Go.K
open Go Go.RowKit
variable {F:Fence} {P:Program} {N:Nat} {ds:List Deferred} {l l':Env} {a:Act} {w:World} {Q:Exit→Act→World→Prop} {ops:Array Oper} {os:List Oper} {o:Oper}
variable {g0 g:G} {L:List cV} {K:Value→World→Prop}
def rep(d:Nat)(v:Value):Env→Env
 |[]=>[]
 |(k,u)::r=>bif Nat.beq k d then(k,v)::r else(k,u)::rep d v r
theorem Au{d:Nat}{v:Value}: ∀(l:Env) (t:Nat) (u:Value),lk (rep d v l) t=some u→(t=d∧u=v)∨(t≠d∧lk l t=some u)
 |[],t,u,h=>by simp[rep,lk]at h
 |(k,x)::r,t,u,h=>by
  simp only[rep]at h
  cases hk:Nat.beq k d with
  |true=>
   have RC:=Nat.eq_of_beq_eq_true hk
   subst RC
   rw[hk]at h
   simp only[cond_true]at h
   by_cases e:k=t
   ·subst e
    rw[cK]at h
    exact .inl ⟨rfl,(Option.some.inj h).symm⟩
   ·rw[bZ _ _ e]at h
    exact .inr ⟨fun q=>e q.symm,by rw[bZ _ _ e];exact h⟩
  |false=>
   rw[hk]at h
   simp only[cond_false]at h
   by_cases e:k=t
   ·subst e
    rw[cK]at h
    refine .inr ⟨fun q=>?_,by rw[cK];exact h⟩
    subst q
    simp at hk
   ·rw[bZ _ _ e]at h
    rcases Au r t u h with h'|⟨h1,h2⟩
    ·exact .inl h'
    ·exact .inr ⟨h1,by rw[bZ _ _ e];exact h2⟩
theorem vP{d:Nat}{v x:Value}: ∀(l:Env),lk l d=some x→lk (rep d v l) d=some v
 |[],h=>by simp[lk]at h
 |(k,y)::r,h=>by
  simp only[rep]
  cases hk:Nat.beq k d with
  |true=>
   have:=Nat.eq_of_beq_eq_true hk
   subst this
   simp[cK]
  |false=>
   have fu:k≠d:=fun q=>by subst q;simp at hk
   rw[bZ _ _ fu]at h
   simp only[cond_false]
   rw[bZ _ _ fu]
   exact vP r h
theorem qe{d:Nat}{v:Value}: ∀(l:Env) (t:Nat),t≠d→lk (rep d v l) t=lk l t
 |[],t,_=>rfl
 |(k,y)::r,t,h=>by
  simp only[rep]
  cases hk:Nat.beq k d with
  |true=>
   have:=Nat.eq_of_beq_eq_true hk
   subst this
   simp only[cond_true]
   rw[bZ _ _ (fun q=>h q.symm),bZ _ _ (fun q=>h q.symm)]
  |false=>
   simp only[cond_false]
   by_cases e:k=t
   ·subst e;rw[cK,cK]
   ·rw[bZ _ _ e,bZ _ _ e];exact qe r t h
theorem Fr.rep{d:Nat}{v:Value}(ha:Fr N ds l a)(h:lk l d=some v){v':Value}(e:v=v'):Fr N ds (rep d v' l) a:=by
 refine⟨ha.defers,ha.size,fun t u hu=>?_⟩
 rcases Au l t u hu with⟨rfl,rfl⟩|⟨_,h2⟩
 ·subst e;exact ha.get _ _ h
 ·exact ha.get _ _ h2
theorem Fr.Ov{d:Nat}{v v':Value}(ha:Fr N ds (Go.K.rep d v' l) a)(h:lk l d=some v)(e:v=v'):Fr N ds l a:=by
 refine⟨ha.defers,ha.size,fun t u hu=>?_⟩
 by_cases KI:t=d
 ·subst KI
  rw[h]at hu
  obtain rfl:=Option.some.inj hu
  subst e
  exact ha.get _ _ (vP l h)
 ·exact ha.get _ _ (by rw[qe l t KI];exact hu)
def uh(ops:Array Oper):Env→List Oper→Option Env
 |l,[]=>some l
 |l,o::os=>
  match mJ ops l o.guard,o.dst with
  |some false,some d=>uh ops ((d,undef)::l) os
  |_,_=>none
theorem uj(hF: ∀f,F.fn f): ∀(o1:List Oper) {l l':Env} {a:Act} {w:World},uh ops l o1=some l'→(o1.all fun o=>KH N o.dst)=true→Fr N ds l a→
  (∀a',Fr N ds l' a'→(∀t,(∀o∈o1,o.dst≠some t)→a'.tmps[t]? =a.tmps[t]?)→wpListIn F 0 P ops Q os a' w)→wpListIn F 0 P ops Q (o1++os) a w
 |[],l,l',a,w,hp,_,ha,h=>by
  simp only[uh,Option.some.injEq]at hp
  subst hp
  exact h a ha fun _ _=>rfl
 |o::o1,l,l',a,w,hp,hd,ha,h=>by
  simp only[uh]at hp
  split at hp
  ·rename_i d hg tP
   simp only[List.all_cons,Bool.and_eq_true]at hd
   have oU:=ha.put hd.1 undef
   rw[tP]at oU
   simp only[List.cons_append,wpListIn,jN hg ha]
   refine⟨fun f _=>hF f,?_⟩
   rw[tP]
   refine uj hF o1 hp hd.2 oU fun a' eI hk=>h a' eI fun t ht=>?_
   rw[hk t (fun o' qp=>ht o' (by simp[qp]))]
   simp only[Act.put]
   rw[Array.getElem?_setIfInBounds_ne (fun e=>ht o (by simp) (by rw[tP,e]))]
  ·cases hp
theorem cw(n:Nat){want b x:Bool}{d dp da:Nat}{ty:TypeId}{pos:String}{af:Array Edge}{gp:Option (Nat×Bool)}{A B:Operand}(hF: ∀f,F.fn f){l1:Env}
  (IC:os[n]? =some ⟨some dp,.pick (.tmp d) A B,ty,pos,af,gp⟩) (hl:lk l d=some (.bool b)) (Vy:Nat.blt dp N=true) (FX:mJ ops l gp=some true)
  (zm:(want=true∧A= .tmp da∧B= .const (.bool false))∨(want=false∧A= .const (.bool true)∧B= .tmp da)) (Pe:lk l da=none)
  (Ow:uh ops (rep d (.bool (!want)) l) (os.take n)=some l1) (lH:((os.take n).all fun o=>KH N o.dst)=true) (J7:((os.take n).all fun o=>match o.dst with|some t=>(lk l t).isNone|none=>false)=true)
  (h1:b=want→ ∀Q':Exit→Act→World→Prop,(∀g' a,aZ g g'→Fr N ds ((da,.bool x)::rep d (.bool want) l) a→Q' .normal a g'.w)→WL F P N ds ops Q' (os.take n) (rep d (.bool want) l) g.w)
  (k: ∀g',aZ g g'→WL F P N ds ops Q (os.drop (n+1)) ((dp,.bool (bif want then b&&x else b||x))::l) g'.w):WL F P N ds ops Q os l g.w:=by
 have O9:os=os.take n++(⟨some dp,.pick (.tmp d) A B,ty,pos,af,gp⟩::os.drop (n+1)):=by
  have bh:=(List.getElem?_eq_some_iff.1 IC).1
  have h2:=(List.getElem?_eq_some_iff.1 IC).2
  rw[←h2,←List.drop_eq_getElem_cons bh,List.take_append_drop]
 intro a ha
 have BA: ∀(g':G) (a':Act),aZ g g'→Fr N ds l a'→(execOp a'.eval ⟨some dp,.pick (.tmp d) A B,ty,pos,af,gp⟩).run P g'.w= .ok (.value (.bool (bif want then b&&x else b||x))) g'.w→
   wpListIn F 0 P ops Q (⟨some dp,.pick (.tmp d) A B,ty,pos,af,gp⟩::os.drop (n+1)) a' g'.w:=by
  intro g' a' hf eI jf
  simp only[wpListIn,jN (o:=⟨some dp,.pick (.tmp d) A B,ty,pos,af,gp⟩) FX eI,if_true]
  unfold Oper.wpIn
  refine⟨fun f _=>hF f,?_⟩
  rw[Oper.semAt_eq _ _ _ (fun c e=>by cases e),jf]
  exact k g' hf _ (eI.put (d:=some dp) Vy _)
 by_cases hb:b=want
 ·subst hb
  have RL:=h1 rfl (Exit.then (fun a' w'=> ∃g',aZ g g'∧g'.w=w'∧Fr N ds ((da,.bool x)::rep d (.bool b) l) a') Q) (fun g' a' hf eI=>⟨g',hf,rfl,eI⟩)
  refine JL _ O9 (fun a' eI=>RL a' (eI.rep hl rfl)) ?_ a ha
  rintro a' _ ⟨g',hf,rfl,eI⟩
  have Ox:a'.eval (.tmp da)= .bool x:=eI.ev (x:=.tmp da) (cK _ _ _)
  have Oy:Fr N ds l a':=by
   refine Fr.Ov (d:=d) (v:=.bool b) (v':=.bool b) ⟨eI.defers,eI.size,fun t u hu=>?_⟩ hl rfl
   refine eI.get t u ?_
   rw[bZ _ _ (fun e=>?_)]
   ·exact hu
   ·subst e
    rcases Au l da u hu with⟨h1,_⟩|⟨_,h2⟩
    ·rw[h1,hl]at Pe;cases Pe
    ·rw[h2]at Pe;cases Pe
  refine BA g' a' hf Oy ?_
  have Oz:a'.eval (.tmp d)= .bool b:=Oy.ev (x:=.tmp d) hl
  rcases zm with⟨rfl,rfl,rfl⟩|⟨rfl,rfl,rfl⟩
  ·simp only[execOp,Oz,Ox,asBool,Sem.run_bind,Sem.run_pure,Result.andThen_ok];rfl
  ·simp only[execOp,Oz,Ox,asBool,Sem.run_bind,Sem.run_pure,Result.andThen_ok];rfl
 ·have RM:b= !want:=(show ∀b want:Bool,¬b=want→b= !want from fun b want=>by cases b<;>cases want<;>simp) b want hb
  rw[O9]
  refine uj hF (os.take n) Ow lH (ha.rep hl (by rw[RM])) fun a' eI hk=>?_
  have Oy:Fr N ds l a':=by
   have OA:a'.defers=ds∧a'.tmps.size=N:=⟨eI.defers,eI.size⟩
   refine⟨OA.1,OA.2,fun t u hu=>?_⟩
   rw[hk t (fun o ho e=>?_)]
   ·exact ha.get t u hu
   ·have:=(List.all_eq_true.1 J7) o ho
    simp only[e]at this
    rw[hu]at this
    cases this
  refine BA g a' (aZ.refl _) Oy ?_
  have Oz:a'.eval (.tmp d)= .bool b:=Oy.ev (x:=.tmp d) hl
  rcases zm with⟨rfl,rfl,rfl⟩|⟨rfl,rfl,rfl⟩
  ·subst RM
   simp only[execOp,Oz,asBool,Sem.run_bind,Sem.run_pure,Result.andThen_ok];rfl
  ·subst RM
   simp only[execOp,Oz,asBool,Sem.run_bind,Sem.run_pure,Result.andThen_ok];rfl
theorem kI{t:Nat}{k:IntKind}{m n:Int}(h:lk l t=some (.int k m))(e:m=n):lk l t=some (.int k n):=e▸h
theorem kV{t:Nat}{u v:Value}(h:lk l t=some u)(e:u=v):lk l t=some v:=e▸h
theorem wr{n:Int}(h1: -9223372036854775808≤n)(h2:n≤9223372036854775807):IntKind.i64.wrap n=n:=by
 exact IntWalk.i64_in n ⟨h1,h2⟩
theorem kC{t:Nat}{u:Value}(v:Value)(hl:lk l t=some u)(e:u=v)(h:WL F P N ds ops Q os ((t,v)::l) w):WL F P N ds ops Q os l w:=by
 refine fun a ha=>h a (ha.sub fun s x hs=>?_)
 by_cases q:t=s
 ·subst q;rw[cK]at hs;rw[hl,e];exact hs
 ·rw[bZ _ _ q]at hs;exact hs
end Go.K
namespace Go.K
open Go Go.RowKit
variable {F:Fence} {P:Program} {N:Nat} {ds:List Deferred} {l l':Env} {a:Act} {w:World} {Q:Exit→Act→World→Prop} {ops:Array Oper} {os:List Oper} {o:Oper}
variable {g0 g:G} {L:List cV} {K:Value→World→Prop}
theorem St.a_(hs:St g0 g L){i b:Nat}{cs:List Value}{E:TypeId}{fz:Nat×Nat}(hi:L[i]? =some (.obj b (.cells cs.toArray E fz))):
  ∃g',g'.w=g.w∧St g0 g' (L.eraseIdx i)∧g.le g'∧EP g' b 0 cs:=by
 refine⟨g.fz _ (fun b hb=>((hs.own i _ hi).lt b hb).2.1),rfl,hs.fz hi,G.ph g _ _,.inr rfl,fun j y hy=>?_⟩
 have h:=(hs.own i _ hi).2.1
 show g.w.cell? _=_
 simp[World.cell?,h,hy]
theorem St.cL{α:Type}[El α](hs:St g0 g L){i:Nat}{e:TypeId}{v:Value}{n:Nat}{cells:List Value}{xs:List α}(hi:L[i]? =some (.row e (El.k α) v n cells))(hr:cO g cells xs):
  ∃g',g'.w=g.w∧St g0 g' (L.eraseIdx i)∧g.le g'∧Rs g' v xs:=by
 refine⟨g.fz _ (fun b hb=>((hs.own i _ hi).lt b hb).2.1),rfl,hs.fz hi,G.ph g _ _,?_⟩
 exact(hs.own i _ hi).1.rs hr (G.ph g _ _) fun b hb=>⟨.inr hb,rfl⟩
theorem eA{R:G→Value→Prop}(hF:F.fn=Wd.fn)(hd:F.depth=none)(zI:F.alive=false){x:Operand}{args:Array Operand}{ts:Array TypeId}{fv:Value}{vs:List Value}
  (ho:o.op= .call {callee:=.value x,args,argTypes:=ts}) (hx:ev l x=some fv) (ha:rP l args.toList=some vs)
  (h:ir P fv vs g.w (cR g R)) (k: ∀g' v,aZ g g'→R g' v→K v g'.w):cT F P N ds o l g.w Q K:=
 eT hF hd zI ho hx ha (h.mono fun _ _ ⟨g',v,hw,hf,he,hr⟩=>⟨v,he,hw▸k g' v hf hr⟩)
theorem de{R:Ending→World→Prop}{f:FuncId}{first captured:Array Value}{args aa:List Value}(hc:ag P f)(has:first.toList++args++captured.toList=aa)(h:CallsIn Wd 0 P f aa.toArray w R):
  ir P (.func (.func f) first captured) args w R:=⟨hc,by rw[has];exact h⟩
def lu{α:Type}(p:α→Bool)(l:List α):Int:=if l.any p then l.findIdx p else -1
theorem oj{α:Type}{p:α→Bool}{l:List α}{k:Nat}(h:k<l.length)(hp:p l[k]=true)(dy: ∀j (h:j<l.length),j<k→p l[j]=false):lu p l=k:=by
 unfold lu
 rw[if_pos (List.any_eq_true.2 ⟨_,List.getElem_mem h,hp⟩)]
 rw[(List.findIdx_eq h).2 ⟨hp,fun j hj=>dy j (by omega) hj⟩]
theorem so{α:Type}{p:α→Bool}{l:List α}(dy: ∀j (h:j<l.length),p l[j]=false):lu p l= -1:=by
 unfold lu
 rw[if_neg]
 intro h
 obtain⟨x,hx,hp⟩:=List.any_eq_true.1 h
 obtain⟨j,hj,rfl⟩:=List.mem_iff_getElem.1 hx
 rw[dy j hj]at hp;cases hp
theorem nf{α:Type}(p:α→Bool)(l:List α):decide (0≤lu p l)=l.any p:=by
 unfold lu
 cases l.any p<;>simp
end Go.K
namespace Go.K
open Go Go.RowKit
variable {F:Fence} {P:Program} {N:Nat} {ds:List Deferred} {l l':Env} {a:Act} {w:World} {Q:Exit→Act→World→Prop} {ops:Array Oper} {os:List Oper} {o:Oper}
variable {g0 g gd:G} {L:List cV} {K:Value→World→Prop} {φs:List Fact} {l0:Env}
theorem aw{i:Nat}(h:vF F P N ds ops Q φs l0 gd i o)(h2:gB F P N ds ops Q φs l0 gd (i+1) os):gB F P N ds ops Q φs l0 gd i (o::os):=⟨h,h2⟩
theorem fJ{i:Nat}:gB F P N ds ops Q φs l0 gd i []:=trivial
theorem aj{k:Env→Prop}(h:k l):QA φs g [] l k:=h
theorem ai{k:Env→Prop}{j d:Nat}{x:Value}{r:List (Nat×Nat)}(he:gP φs j=Fact.eq x)(h:QA φs g r ((d,x)::l) k):QA φs g ((j,d)::r) l k:=by
 intro v hv
 rw[he]at hv
 obtain rfl:v=x:=hv
 exact h
theorem aY{k:Env→Prop}{j d:Nat}{r:List (Nat×Nat)}(h: ∀v,(gP φs j).p v g→QA φs g r ((d,v)::l) k):QA φs g ((j,d)::r) l k:=h
def DK(F:Fence)(P:Program)(N:Nat)(ds:List Deferred)(ops:Array Oper)(Q:Exit→Act→World→Prop)(φ:Fact)(g':G)(o:Oper)(env:Env):Prop:=
 match mJ ops env o.guard with
 |some true=>cT F P N ds o env g'.w Q fun v w'=> ∃dP,dP.w=w'∧aZ g' dP∧φ.p v dP
 |some false=>φ.p undef g'
 |none=>False
theorem JM{i:Nat}(h: ∀g',aZ gd g'→QA φs g' (eQ ops o) l0 (DK F P N ds ops Q (gP φs i) g' o)):vF F P N ds ops Q φs l0 gd i o:=h
theorem ak{i:Nat}{js:List (Nat×Nat)}(hj:eQ ops o=js)(h: ∀g',aZ gd g'→QA φs g' js l0 (DK F P N ds ops Q (gP φs i) g' o)):vF F P N ds ops Q φs l0 gd i o:=by
 subst hj;exact h
theorem qX{φ:Fact}(hg:mJ ops l o.guard=some false)(h:φ.p undef g):DK F P N ds ops Q φ g o l:=by unfold DK;rw[hg];exact h
theorem az{φ:Fact}(hg:mJ ops l o.guard=some true)(h:cT F P N ds o l g.w Q fun v w'=> ∃dP,dP.w=w'∧aZ g dP∧φ.p v dP):DK F P N ds ops Q φ g o l:=by unfold DK;rw[hg];exact h
variable {Q':Exit→Act→World→Prop} {c y:Code} {J:Act→World→Prop} {id:Nat}
theorem au(h:W F P N ds y Q' l w): ∀a,Fr N ds l a→Exit.then (y.wpIn F 0 P Q') Q .normal a w:=h
theorem cQ(h:W F P N ds c Q l w): ∀a,Fr N ds l a→c.wpIn F 0 P Q a w:=h
theorem bU(h: ∀a,Fr N ds l a→Q .normal a w): ∀a,Fr N ds l a→Exit.inBlock id Q .normal a w:=h
theorem dc(h: ∀a,Fr N ds l a→Q .normal a w): ∀a,Fr N ds l a→Exit.inBlock id Q (.exit id) a w:=fun a ha=>by
 unfold Exit.inBlock;simp only[if_true];exact h a ha
theorem NR{Q_:Nat}(fu:Nat.beq Q_ id=false)(h: ∀a,Fr N ds l a→Q (.exit Q_) a w): ∀a,Fr N ds l a→Exit.inBlock id Q (.exit Q_) a w:=fun a ha=>by
 unfold Exit.inBlock
 simp only
 rw[if_neg (fun e=>by subst e;simp at fu)];exact h a ha
theorem bK(h: ∀a,Fr N ds l a→Q (.exit id) a w): ∀a,Fr N ds l a→Exit.then J Q (.exit id) a w:=h
theorem eF(h: ∀a,Fr N ds l a→Q .ret a w): ∀a,Fr N ds l a→Exit.then J Q .ret a w:=h
theorem iq(h: ∀a,Fr N ds l a→Q .ret a w): ∀a,Fr N ds l a→Exit.inBlock id Q .ret a w:=h
end Go.K
namespace Go.K
open Go Go.RowKit
variable {F:Fence} {P:Program} {N:Nat} {ds:List Deferred} {l l':Env} {a:Act} {w:World} {Q:Exit→Act→World→Prop} {ops:Array Oper} {os:List Oper} {o:Oper}
variable {g0 g g':G} {L:List cV} {K:Value→World→Prop} {R:Ending→World→Prop}
theorem DZ{fn:Func}{t D:Nat}{v:Value}(i:Nat)(hr:fn.results=#[.tmp t])(hs:St g0 g L)(hi:L[i]? =some (.obj D fM))(hl:lk l t=some v)
  (hR: ∀g',St g0 g' (L.eraseIdx i)→g.le g'→R (.returned v) g'.w) (a:Act) (ha:Fr N [⟨.collected D,#[]⟩] l a):bodyPostM Wd 0 P fn R .ret a g.w:=by
 show LeavesInM Wd 0 P fn a.tmps R a.defers .returning g.w
 rw[ha.defers]
 have hp:=hs.po (o':=.deferred none) hi
 refine w3 hs hi ⟨_,results_tmp hr _ _ _,?_⟩
 have:a.tmps.getD t undef=v:=by simp[Array.getD_eq_getD_getElem?,ha.get t v hl]
 rw[this]
 refine hR _ ?_ hp.2
 have h2:=hp.1.drop i
 rwa [show(L.set i (cV.obj D (.deferred none))).eraseIdx i=L.eraseIdx i from by
  apply List.ext_getElem?
  intro j
  simp only[List.getElem?_eraseIdx,List.getElem?_set]
  split<;>(rw[if_neg (by omega)])]at h2
theorem H0{fn:Func}{D:Nat}(i:Nat)(hr:fn.results=#[])(hs:St g0 g L)(hi:L[i]? =some (.obj D fM))
  (hR: ∀g',St g0 g' (L.eraseIdx i)→g.le g'→R (.returned (.tuple #[])) g'.w) (a:Act) (ha:Fr N [⟨.collected D,#[]⟩] l a):bodyPostM Wd 0 P fn R .normal a g.w:=by
 show LeavesInM Wd 0 P fn a.tmps R a.defers .returning g.w
 rw[ha.defers]
 have hp:=hs.po (o':=.deferred none) hi
 refine w3 hs hi ⟨_,results_none hr _ _ _,?_⟩
 refine hR _ ?_ hp.2
 have h2:=hp.1.drop i
 rwa [show(L.set i (cV.obj D (.deferred none))).eraseIdx i=L.eraseIdx i from by
  apply List.ext_getElem?
  intro j
  simp only[List.getElem?_eraseIdx,List.getElem?_set]
  split<;>(rw[if_neg (by omega)])]at h2
def jZ{α:Type}[El α](e:TypeId)(g:G)(xs:List α)(g':G)(v:Value):Prop:=∃cells,cV.holds g.w.heap.size g' (.row e (El.k α) v xs.length cells)∧cO g' cells xs
theorem St.gJ(hs:St g0 g L)(hf:aZ g g'){e:cV}(h:e.holds g.w.heap.size g'):St g0 g' (e::L):=by
 have aU:=hs.call hf
 refine⟨aU.below,aU.im,?_,?_⟩
 ·intro j x hj
  cases j with
  |zero=>
   simp only[List.getElem?_cons_zero,Option.some.injEq]at hj
   subst hj
   cases e with
   |obj b o=>exact⟨Nat.le_trans hs.below.size h.1,h.2⟩
   |row t k v n xs=>
    refine⟨⟨h.1.1,?_⟩,h.2⟩
    rcases h.1.2 with h'|⟨b,off,cap,cur,e1,hB,h'⟩
    ·exact .inl h'
    ·exact .inr ⟨b,off,cap,cur,e1,Nat.le_trans hs.below.size hB,h'⟩
  |succ j=>exact aU.own j x (by simpa using hj)
 ·intro j k x y zO hj hk b vG sx
  cases j with
  |zero=>
   cases k with
   |zero=>exact zO rfl
   |succ k=>
    simp only[List.getElem?_cons_zero,Option.some.injEq]at hj
    subst hj
    have h1:=(h.lt b vG).1
    have h2:=((hs.own k y (by simpa using hk)).lt b sx).2.1
    omega
  |succ j=>
   cases k with
   |zero=>
    simp only[List.getElem?_cons_zero,Option.some.injEq]at hk
    subst hk
    have h1:=(h.lt b sx).1
    have h2:=((hs.own j x (by simpa using hj)).lt b vG).2.1
    omega
   |succ k=>exact aU.sep j k x y (by omega) (by simpa using hj) (by simpa using hk) b vG sx
theorem St.mR{α:Type}[El α](hs:St g0 g L){i:Nat}{e:TypeId}{v:Value}{n:Nat}{cells:List Value}{xs:List α}(hi:L[i]? =some (.row e (El.k α) v n cells))(hr:cO g cells xs):jZ e g0 xs g v:=by
 have h:=hs.own i _ hi
 have hn:n=xs.length:=by
  have h1:=h.1.1
  have hp:=El.pos (α:=α)
  rw[hr.len]at h1
  exact(Nat.eq_of_mul_eq_mul_right hp h1).symm
 subst hn
 exact⟨cells,h,hr⟩
theorem jZ.nil{α:Type}[El α](e:TypeId)(g g':G)(a:Option Addr):jZ e g ([]:List α) g' (.slice a 0 0):=
 ⟨[],⟨Row.nil _ _ _ _ _,fun b hb=>by rw[jL]at hb;cases hb⟩,rfl⟩
theorem St.mZ{α:Type}[El α](hs:St g0 g L)(hf:aZ g g'){e:TypeId}{v:Value}{xs:List α}(h:jZ e g xs g' v): ∃g2,g2.w=g'.w∧St g0 g2 L∧g'.le g2∧Rs g2 v xs:=by
 obtain⟨cells,h1,h2⟩:=h
 obtain⟨g2,e1,e2,e3,e4⟩:=(hs.gJ hf h1).cL (i:=0) rfl h2
 exact⟨g2,e1,e2,e3,e4⟩
theorem cO.ints(g:G): ∀xs:List Int,cO g (xs.map (Value.int .i64)) xs
 |[]=>rfl
 |x::xs=>⟨[.int .i64 x],xs.map (Value.int .i64),rfl,rfl,cO.ints g xs⟩
end Go.K
namespace Go.K
open Go Go.RowKit
variable {F:Fence} {P:Program} {N:Nat} {ds:List Deferred} {l l':Env} {a:Act} {w:World} {Q:Exit→Act→World→Prop} {ops:Array Oper} {os:List Oper} {o:Oper}
variable {g0 g g':G} {L:List cV} {K:Value→World→Prop}
theorem Cs(z:Array Value)(n:Nat)(hz:0<z.size):(Builtin.zeroCells z n).toList=(List.replicate n z.toList).flatten:=vH z n hz
theorem vr{tb:Tb}(dn:tb.ok P)(i:Nat){t e:Nat}{ti ei:TI}{k:Nat}{x:Operand}{b p m cap n c' a:Nat}{ad:Option Addr}{xs xs':List Value}
  (ho:o.op= .call {callee:=.builtin .clear,args:=#[x],argTypes:=#[t]}) (hs:St g0 g L) (hL:L[i]? =some (.row e k (.slice (some ⟨b,p,none⟩) n cap) n xs)) (hx:ev l x=some (.slice ad m c'))
  (hi:tl tb t=some ti) (hd:ti.desc= .slice e) (hj:tl tb e=some ei) (hk:ei.size=k) (nk:0<k) (hz:ei.zero.cells.size=k) (h1:ei.zero.cells.toList.all Value.oneCell'=true)
  (Ra:m=0∨ad=some ⟨b,p+a*k,none⟩) (U1:a+m=n) (jm:xs'=xs.take (a*k)++(List.replicate m ei.zero.cells.toList).flatten)
  (kk: ∀g',St g0 g' (L.set i (.row e k (.slice (some ⟨b,p,none⟩) n cap) n xs'))→g.le g'→K (.tuple #[]) g'.w):cT F P N ds o l g.w Q K:=by
 obtain⟨⟨dd,hu,he⟩,_⟩:=dn.at hi
 rw[hd]at he
 obtain rfl:=KD.of_slice he
 obtain⟨_,inf,e1,e2,e3,e4⟩:=dn.at hj
 have dZ:=hs.own i _ hL
 have lG:=dZ.1.1
 by_cases hm:m=0
 ·subst hm
  have U2:xs'=xs:=by
   rw[jm,show a=n from by omega,List.take_of_length_le (by omega)];simp
  subst U2
  refine fE ho (w':=g.w) (v:=.tuple #[]) (fun ac ha=>?_) (kk g (by
   rw[show L.set i (cV.row e k (.slice (some ⟨b,p,none⟩) n cap) n xs')=L from by
    apply List.ext_getElem?
    intro j
    rw[List.getElem?_set]
    split
    ·rename_i h;subst h
     rw[hL]
     simp[(List.getElem?_eq_some_iff.1 hL).1]
    ·rfl]
   exact hs) (G.le.refl g))
  cases ad<;>simp[resolve,invoke,builtin,ha.ev hx,Builtin.clear_,run_underlying hu]
 ·have Ra:=Ra.resolve_left hm
  subst Ra
  have SZ:((List.replicate m ei.zero.cells.toList).flatten).length=m*k:=by simp[hz]
  have WO:0<m*k:=Nat.mul_pos (by omega) nk
  have S0:n*k=a*k+m*k:=by rw[←U1,Nat.add_mul]
  obtain⟨cur,_,hh,EN,hR,qP,_⟩:=dZ.1.store (us:=(List.replicate m ei.zero.cells.toList).flatten) (off:=a*k) (by rw[SZ,lG];omega) (by omega)
  have Rb:lF xs (a*k) (List.replicate m ei.zero.cells.toList).flatten=xs':=by
   unfold lF
   rw[SZ,List.drop_of_length_le (by omega),List.append_nil,jm]
  rw[Rb]at hR
  have dm:=hs.FV (g':=g.sr b (lF cur (p+a*k) (List.replicate m ei.zero.cells.toList).flatten).toArray) (e':=.row e k (.slice (some ⟨b,p,none⟩) n cap) n xs') hL
   (by simp only[cV.rV,jc qP];exact j4 _ _ _) (fun _ _=>Iff.rfl) ⟨hR,dZ.2⟩ (fun b' rQ=> .inl rQ)
  refine fE ho (w':=(g.sr b (lF cur (p+a*k) (List.replicate m ei.zero.cells.toList).flatten).toArray).w) (v:=.tuple #[]) (fun ac ha=>?_) (kk _ dm.1 dm.2)
  have Bk:=gU (P:=P) b (p+a*k) e (List.replicate m ei.zero.cells.toList).flatten 0 cur.toArray g.w hh (by simpa using EN) (by
   intro u hu
   obtain⟨l',CV,O_⟩:=List.mem_flatten.1 hu
   rw[(List.mem_replicate.1 CV).2]at O_
   exact List.all_eq_true.1 h1 u O_)
  simp only[Nat.add_zero]at Bk
  obtain⟨m',rfl⟩: ∃m',m=m'+1:=⟨m-1,by omega⟩
  simp[resolve,invoke,builtin,ha.ev hx,Builtin.clear_,run_underlying hu,zeroValue,typeInfo,e1,e4,Cs _ _ (by omega:0<ei.zero.cells.size),Bk,G.sr,lF]
theorem Row.x9{B:Nat}{e:TypeId}{k n c a:Nat}{ad:Option Addr}{xs:List Value}(h:Row B e k (.slice ad n c) n xs w)(h1:a≤n):
  Row B e k (.slice (if c=0 then ad else ad.map (·.add (0*k))) (a-0) (c-0)) a (xs.take (a*k)) w:=by
 refine⟨by rw[List.length_take,h.1];exact Nat.min_eq_left (Nat.mul_le_mul_right k h1),?_⟩
 rcases h.2 with⟨rfl,a',e1⟩|⟨b,p,cap,cur,e1,hB,hh,nd,oJ,mG,ht⟩
 ·simp only[Value.slice.injEq]at e1
  obtain⟨rfl,_,rfl⟩:=e1
  obtain rfl:a=0:=by omega
  exact .inl ⟨rfl,ad,by simp⟩
 ·simp only[Value.slice.injEq]at e1
  obtain⟨rfl,_,rfl⟩:=e1
  by_cases Ck:c=0
  ·subst Ck
   exact .inl ⟨by omega,_,by rw[show a-0=0 from by omega,show(0:Nat)-0=0 from rfl]⟩
  ·rw[if_neg Ck]
   refine .inr ⟨b,p,c,cur,by simp[Addr.add_lit],hB,hh,by omega,oJ,mG,?_⟩
   rw[←ht,List.take_take,Nat.min_eq_left (Nat.mul_le_mul_right k h1)]
theorem St.x9(hs:St g0 g L){i:Nat}{e:TypeId}{k n c a:Nat}{ad:Option Addr}{xs:List Value}(hi:L[i]? =some (.row e k (.slice ad n c) n xs))(h1:a≤n):
  St g0 g (L.set i (.row e k (.slice (if c=0 then ad else ad.map (·.add (0*k))) (a-0) (c-0)) a (xs.take (a*k)))):=by
 have dZ:=hs.own i _ hi
 have uS: ∀b,o6 (.slice (if c=0 then ad else ad.map (·.add (0*k))) (a-0) (c-0))=some b→o6 (.slice ad n c)=some b:=by
  intro b hb
  by_cases hc:c=0
  ·subst hc;rw[show(0:Nat)-0=0 from rfl,jL]at hb;cases hb
  ·rw[if_neg hc]at hb
   cases ad with
   |none=>simp[o6]at hb
   |some ad=>
    rw[Option.map_some,Nat.sub_zero,Nat.sub_zero,jc hc]at hb
    rw[jc hc]
    rw[Nat.zero_mul]at hb
    simpa [Addr.add]using hb
 exact(hs.FV (g':=g) (e':=.row e k (.slice (if c=0 then ad else ad.map (·.add (0*k))) (a-0) (c-0)) a (xs.take (a*k))) hi (jd _ _) (fun _ _=>Iff.rfl)
  ⟨dZ.1.x9 h1,fun b hb=>dZ.2 b (uS b hb)⟩ (fun b hb=> .inl (uS b hb))).1
theorem St.cutFrom(hs:St g0 g L){i:Nat}{e:TypeId}{k n c a:Nat}{ad:Option Addr}{xs:List Value}(hi:L[i]? =some (.row e k (.slice ad n c) n xs))(h1:a≤n):
  St g0 g (L.set i (.row e k (.slice (if c=a then ad else ad.map (·.add (a*k))) (n-a) (c-a)) (n-a) (xs.drop (a*k)))):=by
 have dZ:=hs.own i _ hi
 have nd:n≤c:=by
  rcases dZ.1.2 with⟨h,a',e1⟩|⟨b,p,cap,cur,e1,_,_,h2,_⟩
  ·omega
  ·simp only[Value.slice.injEq]at e1;omega
 have uS: ∀b,o6 (.slice (if c=a then ad else ad.map (·.add (a*k))) (n-a) (c-a))=some b→o6 (.slice ad n c)=some b:=by
  intro b hb
  by_cases hc:c=a
  ·rw[show c-a=0 from by omega,jL]at hb;cases hb
  ·rw[if_neg hc]at hb
   cases ad with
   |none=>simp[o6]at hb
   |some ad=>
    rw[Option.map_some,jc (by omega)]at hb
    rw[jc (by omega)]
    rw[←hb]
    unfold Addr.add
    split<;>rfl
 exact(hs.FV (g':=g) (e':=.row e k (.slice (if c=a then ad else ad.map (·.add (a*k))) (n-a) (c-a)) (n-a) (xs.drop (a*k))) hi (jd _ _) (fun _ _=>Iff.rfl)
  ⟨dZ.1.cutFrom h1,fun b hb=>dZ.2 b (uS b hb)⟩ (fun b hb=> .inl (uS b hb))).1
theorem St.Jc{α:Type}[El α](hs:St g0 g L){i:Nat}{e:TypeId}{v:Value}{n:Nat}{cells:List Value}{xs:List α}(hi:L[i]? =some (.row e (El.k α) v n cells))(hr:cO g cells xs):
  ∃gf,gf.w=g.w∧g.le gf∧Rs gf v xs∧ ∀g2,aZ gf g2→ ∃g3,g3.w=g2.w∧aZ g g3:=by
 have dZ:=hs.own i _ hi
 have bh: ∀b,o6 v=some b→b<g.w.heap.size:=fun b hb=>(dZ.1.lt b hb).2
 refine⟨g.fz (o6 v) bh,rfl,G.ph g _ _,dZ.1.rs hr (G.ph g _ _) fun b hb=>⟨.inr hb,rfl⟩,fun g2 hf=>?_⟩
 refine⟨⟨g2.w,fun b=>g2.im b∧o6 v≠some b,fun b h=>g2.lt b h.1⟩,rfl,hf.below,fun b hb=>?_⟩
 have h1:=hf.im b hb
 constructor
 ·intro h
  rcases h1.1 h.1 with h'|h'
  ·exact h'
  ·exact absurd h' h.2
 ·intro h
  exact⟨h1.2 (.inl h),fun h'=>dZ.2 b h' h⟩
end Go.K
namespace Go.K
open Go Go.RowKit
variable {F:Fence} {P:Program} {N:Nat} {ds:List Deferred} {ops:Array Oper} {Q:Exit→Act→World→Prop} {φs:List Fact} {l0:Env} {gd:G}
def uK(φ:Fact):Prop:=∀v g g',g.le g'→φ.p v g→φ.p v g'
def jt(own:List Nat):Nat→List Fact→Prop
 |_,[]=>True
 |i,φ::r=>(own.contains i=true∨uK φ)∧jt own (i+1) r
theorem sy(x:Value):uK (Fact.eq x):=fun _ _ _ _ h=>h
theorem cr{α:Type}[El α](xs:List α):uK (Fact.rs xs):=fun _ _ _ hle h=>Rs.mono hle h
theorem cY:uK Fact.any:=fun _ _ _ _ h=>h
theorem Io{own:List Nat}{i:Nat}:jt own i []:=trivial
theorem jX{own:List Nat}{i:Nat}{φ:Fact}{r:List Fact}(h:uK φ)(h2:jt own (i+1) r):jt own i (φ::r):=⟨.inr h,h2⟩
theorem Ip{own:List Nat}{i:Nat}{x:Value}{r:List Fact}(h2:jt own (i+1) r):jt own i (Fact.eq x::r):=⟨.inr (sy x),h2⟩
theorem Iq{own:List Nat}{i:Nat}{φ:Fact}{r:List Fact}(h:own.contains i=true)(h2:jt own (i+1) r):jt own i (φ::r):=⟨.inl h,h2⟩
theorem jt.at{own:List Nat}: ∀{φs:List Fact} {i:Nat},jt own i φs→ ∀j,own.contains (i+j)=true∨uK (gP φs j)
 |[],i,_,j=> .inr (by unfold gP;simpa using cY)
 |φ::r,i,h,0=>by simpa [gP]using h.1
 |φ::r,i,h,j+1=>by
  have:=jt.at (i:=i+1) h.2 j
  rw[show i+(j+1)=i+1+j from by omega]
  simpa [gP]using this
def U3(e:Nat)(gd:G)(i:Nat)(g g':G):Prop:=if i=e then g.le g'∧aZ gd g' else aZ g g'
def Ir(F:Fence)(P:Program)(N:Nat)(ds:List Deferred)(ops:Array Oper)(Q:Exit→Act→World→Prop)(φs:List Fact)(l0:Env)(gd:G)(e i:Nat)(o:Oper):Prop:=
 ∀g',aZ gd g'→QA φs g' (eQ ops o) l0 fun env=>
  match mJ ops env o.guard with
  |some true=>cT F P N ds o env g'.w Q fun v w'=> ∃dP,dP.w=w'∧U3 e gd i g' dP∧(gP φs i).p v dP
  |some false=>(gP φs i).p undef g'
  |none=>False
def w4(F:Fence)(P:Program)(N:Nat)(ds:List Deferred)(ops:Array Oper)(Q:Exit→Act→World→Prop)(φs:List Fact)(l0:Env)(gd:G)(e:Nat):Nat→List Oper→Prop
 |_,[]=>True
 |i,o::os=>Ir F P N ds ops Q φs l0 gd e i o∧w4 F P N ds ops Q φs l0 gd e (i+1) os
def Is(ops:Array Oper)(own:List Nat)(e m:Nat)(outs:List (Nat×Nat)):Bool:=
 outs.all (fun p=> !own.contains p.1)&&(List.range m).all (fun i=>i==e||(match ops[i]? with|some o=>(eQ ops o).all (fun p=> !own.contains p.1)|none=>true))
theorem w4.at{e:Nat}: ∀{l:List Oper} {i0:Nat},w4 F P N ds ops Q φs l0 gd e i0 l→ ∀(j:Nat) o,l[j]? =some o→Ir F P N ds ops Q φs l0 gd e (i0+j) o
 |[],_,_,j,o,h=>by simp at h
 |x::l,i0,hs,0,o,h=>by
  simp only[List.getElem?_cons_zero,Option.some.injEq]at h
  subst h
  exact hs.1
 |x::l,i0,hs,j+1,o,h=>by
  simp only[List.getElem?_cons_succ]at h
  have:=w4.at (i0:=i0+1) hs.2 j o h
  rw[show i0+(j+1)=i0+1+j from by omega]
  exact this
variable {e:Nat} {os:List Oper} {o:Oper} {l:Env} {g:G}
end Go.K
namespace Go.K
open Go Go.RowKit
variable {F:Fence} {P:Program} {N:Nat} {ds:List Deferred} {l l':Env} {a:Act} {w:World} {Q:Exit→Act→World→Prop} {c:Code}
theorem iQ{b:Frame}{k:List Item}{cs:List Frame}:step P (lone (b.atR a (.code (.scope c)::k)) cs w)= .next (lone (b.atR a (.code c:: .inScope c::k)) cs w):=
 step_lone_go (by simp[stepG,stepG.exec,Frame.atR])
theorem uZ{b:Frame}{k:List Item}{cs:List Frame}:step P (lone (b.atR a (.inScope c::k)) cs w)= .next (lone (b.atR a k) cs w):=
 step_lone_go (by simp[stepG,stepG.exec,Frame.atR])
theorem GO(h:W F P N ds c (Exit.noGoto Q) l w):W F P N ds (.scope c) Q l w:=by
 intro a ha b k cs N7 hb hr
 have h0:(lone (b.atR a (.code (.scope c)::k)) cs w).fenced P F:=fenced_calm hb hr rfl
 obtain⟨e,a₁,w₁,hq,oQ⟩:=h a ha b (.inScope c::k) cs N7 hb hr
 cases e with
 |normal=>exact⟨.normal,a₁,w₁,hq,.head h0 iQ (StepsIn.trans oQ (.one (fenced_calm hb hr rfl) uZ))⟩
 |exit id=>
  have hx:exitTo id (.inScope c::k)=exitTo id k:=by simp[exitTo]
  exact⟨.exit id,a₁,w₁,hq,fun k' hk=> .head h0 iQ (oQ.1 k' (by rw[hx];exact hk)),
   fun HA hk=>let⟨k₁,h1,h2⟩:=oQ.2 HA (by rw[hx];exact hk);⟨k₁,h1,.head h0 iQ h2⟩⟩
 |goto l=>exact hq.elim
 |ret=>exact⟨_,a₁,w₁,hq,.of_steps (.one h0 iQ) oQ⟩
 |panic ch=>exact⟨_,a₁,w₁,hq,.of_steps (.one h0 iQ) oQ⟩
 |outgrown=>exact⟨_,a₁,w₁,hq,.of_steps (.one h0 iQ) oQ⟩
theorem JC(h: ∀a,Fr N ds l a→Q .ret a w): ∀a,Fr N ds l a→Exit.noGoto Q .ret a w:=h
end Go.K
namespace Go.K
open Go Go.RowKit
variable {F:Fence} {P:Program} {N:Nat} {ds:List Deferred} {l l':Env} {a:Act} {w:World} {Q:Exit→Act→World→Prop} {o:Oper} {K:Value→World→Prop}
theorem nR{t t':TypeId}{x y:Operand}{k:IntKind}{m n:Int}(ho:o.op= .binOp .rem t x y t')(hx:ev l x=some (.int k m))(hy:ev l y=some (.int k n))(hn:n≠0)(kk:K (.int k (m.tmod n)) w):cT F P N ds o l w Q K:=by
 refine bG (fun c=>⟨by rw[ho];simp,by rw[ho];simp⟩) (fun a ha=>?_) kk
 simp only[execOp,ho,ha.ev hx,ha.ev hy,Sem.run_bind,gv,Result.andThen_ok]
 unfold binOp
 simp only[ne_eq,not_true_eq_false,if_false]
 unfold Op.intDiv
 rw[if_neg hn]
 rfl
end Go.K
namespace Go.K
open Go Go.RowKit
variable {F:Fence} {P:Program} {N:Nat} {ds:List Deferred} {ops:Array Oper} {Q:Exit→Act→World→Prop} {φs:List Fact} {l0:Env} {gd:G}
def yA(e i:Nat)(g g':G):Prop:=if i=e then g.le g' else aZ g g'
def vI(F:Fence)(P:Program)(N:Nat)(ds:List Deferred)(ops:Array Oper)(Q:Exit→Act→World→Prop)(φs:List Fact)(l0:Env)(gd:G)(r':List Nat)(e i:Nat)(o:Oper):Prop:=
 ∀g',gd.le g'→((r'.contains i=true∨i=e)→aZ gd g')→QA φs g' (eQ ops o) l0 fun env=>
  match mJ ops env o.guard with
  |some true=>cT F P N ds o env g'.w Q fun v w'=> ∃dP,dP.w=w'∧yA e i g' dP∧(gP φs i).p v dP
  |some false=>(gP φs i).p undef g'
  |none=>False
def np(F:Fence)(P:Program)(N:Nat)(ds:List Deferred)(ops:Array Oper)(Q:Exit→Act→World→Prop)(φs:List Fact)(l0:Env)(gd:G)(r':List Nat)(e:Nat):Nat→List Oper→Prop
 |_,[]=>True
 |i,o::os=>vI F P N ds ops Q φs l0 gd r' e i o∧np F P N ds ops Q φs l0 gd r' e (i+1) os
def tM(ops:Array Oper)(r':List Nat)(e:Nat):Bool:=
 r'.all fun i=>Nat.blt i e&&(e::r').any fun j=>match ops[j]? with|some o=>(lb o).contains i|none=>false
theorem np.at{r':List Nat}{e:Nat}: ∀{l:List Oper} {i0:Nat},np F P N ds ops Q φs l0 gd r' e i0 l→ ∀(j:Nat) o,l[j]? =some o→vI F P N ds ops Q φs l0 gd r' e (i0+j) o
 |[],_,_,j,o,h=>by simp at h
 |x::l,i0,hs,0,o,h=>by
  simp only[List.getElem?_cons_zero,Option.some.injEq]at h
  subst h
  exact hs.1
 |x::l,i0,hs,j+1,o,h=>by
  simp only[List.getElem?_cons_succ]at h
  have:=np.at (i0:=i0+1) hs.2 j o h
  rw[show i0+(j+1)=i0+1+j from by omega]
  exact this
theorem Bn{id:Nat}{g:G}(hF: ∀f,F.fn f)(hm:P.follows .mixedOrders=true)(φs:List Fact)(m:Nat)(outs:List (Nat×Nat))(own r':List Nat)(e:Nat)(lH:qY N ops l0 m=true)(dZ:Is ops own e m outs=true)(Ct:tM ops r' e=true)(hsoft:jt (e::own) 0 φs)
  (houts:outs.all (fun p=>Nat.blt p.1 m&&(dH ops p.1==some p.2))=true)
  (iJ:np F P N ds ops Q φs l0 g.dr r' e 0 (ops.toList.take m))
  (jT: ∀g',g.dr.le g'→QA φs g' outs l0 fun env=>WL F P N ds ops Q (ops.toList.drop m) env g'.w):W F P N ds (.region id ops true) Q l0 g.w:=by
 intro a ha
 simp only[qY,Bool.and_eq_true,List.all_eq_true,List.mem_range]at lH
 obtain⟨⟨⟨c1,c2⟩,c3⟩,c4⟩:=lH
 have c4:m≤ops.size:=Nat.le_of_ble_eq_true c4
 have k1: ∀i o,ops[i]? =some o→ ∀j∈lb o,j<i:=by
  intro i o ho j hj
  have:=c1 i (Array.getElem?_eq_some_iff.1 ho).1
  rw[ho]at this
  have:=(List.all_eq_true.1 this) j hj
  simpa [Nat.blt_eq]using this
 have k2: ∀j o,m≤j→ops[j]? =some o→ ∀k,k<j→ ∃i' o',k<i'∧i'≤j∧ops[i']? =some o'∧k∈lb o':=by
  intro j o hj ho k hk
  have:=c2 j (Array.getElem?_eq_some_iff.1 ho).1
  simp only[Bool.or_eq_true]at this
  rcases this with h|h
  ·have:j<m:=by simpa [Nat.blt_eq]using h
   omega
  ·have:=(List.all_eq_true.1 h) k (List.mem_range.2 hk)
   obtain⟨i',h1,h2⟩:=List.any_eq_true.1 this
   simp only[Bool.and_eq_true]at h2
   have h3:=List.mem_range.1 h1
   cases qp:ops[i']? with
   |none=>rw[qp]at h2;simp at h2
   |some o'=>
    rw[qp]at h2
    exact⟨i',o',by simpa [Nat.blt_eq]using h2.1,by omega,qp,by simpa using h2.2⟩
 have k4: ∀(listed:Array Bool),(∀k o,listed.getD k false=true→ops[k]? =some o→ ∀e∈lb o,listed.getD e false=true)→ ∀j o,m≤j→ops[j]? =some o→(∀e∈lb o,listed.getD e false=true)→ ∀k,k<j→listed.getD k false=true:=by
  intro listed fY j o hj ho dh
  have: ∀d k,k<j→j-k=d→listed.getD k false=true:=by
   intro d
   induction d using Nat.strongRecOn with
   |_ d Cu=>
    intro k hk hd
    obtain⟨i',o',h1,h2,h3,h4⟩:=k2 j o hj ho k hk
    rcases Nat.lt_or_ge i' j with h|h
    ·exact fY i' o' (Cu (j-i') (by omega) i' h rfl) h3 k h4
    ·obtain rfl:i'=j:=by omega
     rw[ho]at h3
     obtain rfl:=Option.some.inj h3
     exact dh k h4
  exact fun k hk=>this _ k hk rfl
 have k3: ∀i,i<m→ ∃d,dH ops i=some d∧d<N∧lk l0 d=none∧ ∀j,j<m→j≠i→ ∃e,dH ops j=some e∧e≠d:=by
  intro i hi
  have:=c3 i hi
  cases hd:dH ops i with
  |none=>simp[hd]at this
  |some d=>
   simp only[hd,Bool.and_eq_true,List.all_eq_true,List.mem_range,Bool.or_eq_true]at this
   refine⟨d,rfl,by simpa [Nat.blt_eq]using this.1.1,by simpa using this.1.2,fun j hj fu=>?_⟩
   rcases this.2 j hj with h|h
   ·exact absurd (by simpa using h) fu
   ·cases he:dH ops j with
    |none=>simp[he]at h
    |some e=>exact⟨e,rfl,by simpa [he]using h⟩
 simp only[Is,Bool.and_eq_true,List.all_eq_true,List.mem_range]at dZ
 have o1: ∀p∈outs,own.contains p.1=false:=fun p hp=>by simpa using dZ.1 p hp
 have o2: ∀i o,i<m→i≠e→ops[i]? =some o→ ∀p∈eQ ops o,own.contains p.1=false:=by
  intro i o hi fu ho p hp
  have:=dZ.2 i hi
  rw[ho]at this
  simp only[Bool.or_eq_true]at this
  rcases this with h|h
  ·exact absurd (by simpa using h) fu
  ·simpa using(List.all_eq_true.1 h) p hp
 have Rc: ∀(listed:Array Bool),(∀k o,listed.getD k false=true→ops[k]? =some o→ ∀e∈lb o,listed.getD e false=true)→listed.getD e false=true→ ∀i,r'.contains i=true→listed.getD i false=true:=by
  intro listed fY hle
  have: ∀d i,r'.contains i=true→e-i=d→listed.getD i false=true:=by
   intro d
   induction d using Nat.strongRecOn with
   |_ d Cu=>
    intro i hi hd
    have h:=(List.all_eq_true.1 Ct) i (by simpa using hi)
    simp only[Bool.and_eq_true,List.any_eq_true]at h
    obtain⟨w5,j,hj,tN⟩:=h
    have w5:i<e:=by simpa [Nat.blt_eq]using w5
    cases qp:ops[j]? with
    |none=>rw[qp]at tN;simp at tN
    |some o'=>
     rw[qp]at tN
     have zK:=k1 j o' qp i (by simpa using tN)
     refine fY j o' ?_ qp i (by simpa using tN)
     rcases List.mem_cons.1 hj with rfl|hj
     ·exact hle
     ·have JN:=(List.all_eq_true.1 Ct) j hj
      simp only[Bool.and_eq_true]at JN
      have JN:j<e:=by simpa [Nat.blt_eq]using JN.1
      exact Cu (e-j) (by omega) j (by simpa using hj) rfl
  exact fun i hi=>this _ i hi rfl
 let waits:Nat→Array Bool→Prop:=fun j listed=>(∃p∈outs,p.1=j)∨ ∃i o,i<m∧listed.getD i false=false∧ops[i]? =some o∧ ∃p∈eQ ops o,p.1=j
 refine wpIn_region_any hm ?_
 have key: ∀(fuel:Nat) (listed:Array Bool) (a:Act) (g':G),listed.size=ops.size→(g.dr.le g'∧(listed.getD e false=false→aZ g.dr g'))→Fr N ds l0 a→
   (∀i,i<m→listed.getD i false=true→ ∃d v,dH ops i=some d∧a.tmps[d]? =some v∧(waits i listed→(gP φs i).p v g'))→(∀j,m≤j→j<ops.size→listed.getD j false=false)→(∀k o,listed.getD k false=true→ops[k]? =some o→ ∀e∈lb o,listed.getD e false=true)→
   (ops.size-((List.range ops.size).filter fun i=>listed.getD i false).length≤fuel)→wpAnyIn F 0 P .any ops Q fuel listed a g'.w:=by
  intro fuel
  induction fuel with
  |zero=>
   intro listed a g' cS hf ha eV gN fY tO
   have dh: ∀j,j<ops.size→listed.getD j false=true:=by
    have hlen:((List.range ops.size).filter fun i=>listed.getD i false).length=(List.range ops.size).length:=by
     have:=List.length_filter_le (fun i=>listed.getD i false) (List.range ops.size)
     simp only[List.length_range]at this⊢
     omega
    have:=List.length_filter_eq_length_iff.1 hlen
    intro j hj
    exact this j (List.mem_range.2 hj)
   have DH:m=ops.size:=by
    rcases Nat.lt_or_ge m ops.size with h|h
    ·have:=gN m (Nat.le_refl _) h;rw[dh m h]at this;cases this
    ·omega
   obtain⟨env,hW,hZ⟩:=lA outs (jT g' hf.1) ha (fun p hp=>by
    have:=(List.all_eq_true.1 houts) p hp
    simp only[Bool.and_eq_true,beq_iff_eq]at this
    have bh:p.1<m:=by simpa [Nat.blt_eq]using this.1
    obtain⟨d,v,hd,hv,lB⟩:=eV p.1 bh (dh _ (by omega))
    replace lB:=lB (.inl ⟨p,hp,rfl⟩)
    rw[this.2]at hd
    obtain rfl:=Option.some.inj hd
    exact⟨v,hv,lB⟩)
   refine jM k1 0 ops.size listed a g'.w cS (Nat.le_refl _) (fun j o hj ho=>?_) (fun j hj=>⟨fun _=>hj,fun _=>dh j hj⟩) (by omega) (by rw[←DH];exact hW a hZ)
   have:=(Array.getElem?_eq_some_iff.1 ho).1
   omega
  |succ fuel ih=>
   intro listed a g' cS hf ha eV gN fY tO
   by_cases gD: ∀j,j<m→listed.getD j false=true
   ·obtain⟨env,hW,hZ⟩:=lA outs (jT g' hf.1) ha (fun p hp=>by
     have:=(List.all_eq_true.1 houts) p hp
     simp only[Bool.and_eq_true,beq_iff_eq]at this
     have bh:p.1<m:=by simpa [Nat.blt_eq]using this.1
     obtain⟨d,v,hd,hv,lB⟩:=eV p.1 bh (gD _ bh)
     replace lB:=lB (.inl ⟨p,hp,rfl⟩)
     rw[this.2]at hd
     obtain rfl:=Option.some.inj hd
     exact⟨v,hv,lB⟩)
    refine jM k1 (fuel+1) m listed a g'.w cS c4 (fun j o hj ho=>k2 j o hj ho) (fun j hj=>⟨fun h=>?_,fun h=>gD j h⟩) ?_ (hW a hZ)
    ·rcases Nat.lt_or_ge j m with h'|h'
     ·exact h'
     ·rw[gN j h' hj]at h;cases h
    ·have hle:((List.range ops.size).filter fun i=>listed.getD i false).length≤m:=by
      have oR:((List.range ops.size).filter fun i=>listed.getD i false).length≤((List.range ops.size).filter fun i=>decide (i<m)).length:=by
       refine List.Sublist.length_le ?_
       rw[show((List.range ops.size).filter fun i=>listed.getD i false)=((List.range ops.size).filter fun i=>decide (i<m)).filter (fun i=>listed.getD i false)from ?_]
       ·exact List.filter_sublist
       ·rw[List.filter_filter]
        refine List.filter_congr fun i hi=>?_
        have hi:=List.mem_range.1 hi
        by_cases h:i<m
        ·simp[h]
        ·rw[gN i (by omega) hi];simp
      have:((List.range ops.size).filter fun i=>decide (i<m)).length=m:=by
       have e:ops.size=m+(ops.size-m):=by omega
       rw[e,List.range_add,List.filter_append,List.length_append,List.filter_eq_self.2 (by intro x hx;simpa using hx),List.filter_eq_nil_iff.2 (by
        intro x hx
        obtain⟨y,_,rfl⟩:=List.mem_map.1 hx
        simp)]
       simp
      omega
     omega
   ·--qZ of zp first part is not listed:zp least JO is ready
    have hex: ∃j,j<m∧listed.getD j false=false∧ ∀k,k<j→listed.getD k false=true:=by
     have: ∃j,j<m∧listed.getD j false=false:=by
      apply Classical.byContradiction
      intro dy
      apply gD
      intro j hj
      cases hc:listed.getD j false with
      |true=>rfl
      |false=>exact absurd ⟨j,hj,hc⟩ dy
     obtain⟨j,hj⟩:=this
     induction j using Nat.strongRecOn with
     |_ j JP=>
      by_cases hk: ∃k,k<j∧listed.getD k false=false
      ·obtain⟨k,rS,CX⟩:=hk
       exact JP k rS ⟨by omega,CX⟩
      ·refine⟨j,hj.1,hj.2,fun k rS=>?_⟩
       cases hc:listed.getD k false with
       |true=>rfl
       |false=>exact absurd ⟨k,rS,hc⟩ hk
    obtain⟨j0,Re,Bo,tN⟩:=hex
    have je:j0∈Region.ready .any ops listed:=by
     rw[ft]
     have bh:j0<ops.size:=by omega
     refine⟨by rw[getD_lt (cS▸bh) true false];exact Bo,_,Array.getElem?_eq_getElem bh,fun k hk=>tN k (k1 j0 _ (Array.getElem?_eq_getElem bh) k hk)⟩
    refine⟨fun h0=>(by rw[h0]at je;cases je),fun i hi=>?_⟩
    obtain⟨h0,o,ho,dh⟩:=ft.1 hi
    have n_:i<ops.size:=(Array.getElem?_eq_some_iff.1 ho).1
    rw[getD_lt (cS▸n_) true false]at h0
    have oS:i<m:=by
     rcases Nat.lt_or_ge i m with h|h
     ·exact h
     ·have:=k4 listed fY i o h ho dh j0 (by omega);rw[Bo]at this;cases this
    obtain⟨d,hd,Rf,Rg,JQ⟩:=k3 i oS
    have tP:o.dst=some d:=by unfold dH at hd;rw[ho]at hd;exact hd
    have k_:=iJ.at (i0:=0) i o (by rw[List.getElem?_take_of_lt oS];simpa using ho)
    rw[Nat.zero_add]at k_
    have U4:(r'.contains i=true∨i=e)→aZ g.dr g':=by
     intro hi
     refine hf.2 ?_
     cases hle:listed.getD e false with
     |false=>rfl
     |true=>
      exfalso
      rcases hi with hi|hi
      ·have:=Rc listed fY hle i hi
       rw[this]at h0;cases h0
      ·subst hi;rw[hle]at h0;cases h0
    have oT: ∀p∈eQ ops o,∃v,a.tmps[p.2]? =some v∧(gP φs p.1).p v g':=by
     intro p hp
     have Qu:=hp
     unfold eQ at hp
     obtain⟨j,hj,w6⟩:=List.mem_filterMap.1 hp
     cases zq:dH ops j with
     |none=>simp[zq]at w6
     |some e=>
      simp only[zq]at w6
      have JR:j<m:=by have:=k1 i o ho j hj;omega
      obtain⟨d',v,w7,hv,lB⟩:=eV j JR (dh j hj)
      rw[zq]at w7
      obtain rfl:=Option.some.inj w7
      have EO: ∀(c:Bool) (q:Nat×Nat),(bif c then some q else none)=some p→q=p:=by
       intro c q h
       cases c with
       |true=>exact Option.some.inj h
       |false=>cases h
      obtain rfl:=EO _ _ w6
      exact⟨v,hv,lB (.inr ⟨i,o,oS,h0,ho,_,Qu,rfl⟩)⟩
    obtain⟨env,hk,hZ⟩:=lA (eQ ops o) (k_ g' hf.1 U4) ha oT
    have jK: ∀(a':Act) (dP:G) (v:Value),a'=a.put o.dst v→yA e i g' dP→(gP φs i).p v dP→wpAnyIn F 0 P .any ops Q fuel (listed.setIfInBounds i true) a' dP.w:=by
     intro a' dP v he eO lB
     have Cv:g.dr.le dP∧((listed.setIfInBounds i true).getD e false=false→aZ g.dr dP):=by
      unfold yA at eO;split at eO
      ·rename_i w5
       refine⟨hf.1.trans eO,fun hl=>?_⟩
       subst w5
       simp[cS,n_]at hl
      ·rename_i w5
       refine⟨hf.1.trans eO.le,fun hl=>?_⟩
       refine(hf.2 ?_).trans eO
       have:(listed.setIfInBounds i true).getD e false=listed.getD e false:=by
        simp only[Array.getD_eq_getD_getElem?]
        rw[Array.getElem?_setIfInBounds_ne w5]
       rw[←this];exact hl
     have oU: ∀t,t≠d→a'.tmps[t]? =a.tmps[t]?:=fun t ht=>by
      rw[he,tP]
      simp only[Act.put]
      rw[Array.getElem?_setIfInBounds_ne (fun e=>ht e.symm)]
     have rq:a'.tmps[d]? =some v:=by
      rw[he,tP]
      simp only[Act.put]
      rw[Array.getElem?_setIfInBounds_self,if_pos (by rw[ha.size];exact Rf)]
     have iU: ∀k,k≠i→(listed.setIfInBounds i true).getD k false=listed.getD k false:=fun k hk=>by
      simp only[Array.getD_eq_getD_getElem?]
      rw[Array.getElem?_setIfInBounds_ne (fun e=>hk e.symm)]
     have d_:(listed.setIfInBounds i true).getD i false=true:=by simp[cS,n_]
     refine ih _ a' dP (by simpa using cS) Cv ⟨by rw[he,tP];exact ha.defers,by rw[he,tP];simp[Act.put,ha.size],fun t u hu=>?_⟩ (fun k hk j9=>?_) (fun j hj G3=>?_) (fun k o' hk Ae e he=>?_) ?_
     ·have KI:t≠d:=fun e=>by subst e;rw[Rg]at hu;cases hu
      rw[oU t KI];exact ha.get t u hu
     ·by_cases kK:k=i
      ·subst kK
       exact⟨d,v,hd,rq,fun _=>lB⟩
      ·rw[iU k kK]at j9
       obtain⟨d',v',w7,ER,Af⟩:=eV k hk j9
       obtain⟨e,N_,KJ⟩:=JQ k hk kK
       rw[w7]at N_
       obtain rfl:=Option.some.inj N_
       refine⟨d',v',w7,by rw[oU d' KJ];exact ER,fun S1=>?_⟩
       have Rh:waits k listed:=by
        rcases S1 with h|⟨i2,Ri,h1,h2,h3⟩
        ·exact .inl h
        ·refine .inr ⟨i2,Ri,h1,?_,h3⟩
         by_cases h4:i2=i
         ·subst h4;rw[d_]at h2;cases h2
         ·rw[iU i2 h4]at h2;exact h2
       have hp:=Af Rh
       unfold yA at eO
       split at eO
       ·rename_i w5
        rcases jt.at hsoft k with h|h
        ·rw[Nat.zero_add]at h
         replace h:own.contains k=true:=by
          have G4:(k==e)=false:=by simp;exact fun q=>kK (q.trans w5.symm)
          simp only[List.contains_cons,G4,Bool.false_or]at h
          exact h
         rcases S1 with⟨p,wk,KK⟩|⟨i2,Ri,h1,h2,h3,p,wk,KK⟩
         ·have:=o1 p wk;rw[KK,h]at this;cases this
         ·by_cases h4:i2=e
          ·rw[h4,←w5,d_]at h2;cases h2
          ·have:=o2 i2 Ri h1 h4 h3 p wk;rw[KK,h]at this;cases this
        ·exact h _ _ _ eO hp
       ·exact(gP φs k).mono _ _ _ eO hp
     ·rw[iU j (by omega)]
      exact gN j hj G3
     ·have hle: ∀x,listed.getD x false=true→(listed.setIfInBounds i true).getD x false=true:=fun x hx=>by
       by_cases zJ:x=i
       ·subst zJ;exact d_
       ·rw[iU x zJ];exact hx
      by_cases kK:k=i
      ·subst kK
       rw[ho]at Ae
       obtain rfl:=Option.some.inj Ae
       exact hle e (dh e he)
      ·rw[iU k kK]at hk
       exact hle e (fY k o' hk Ae e he)
     ·have bh:((List.range ops.size).filter fun k=>listed.getD k false).length<((List.range ops.size).filter fun k=>(listed.setIfInBounds i true).getD k false).length:=by
       have oR:List.Sublist ((List.range ops.size).filter fun k=>listed.getD k false) ((List.range ops.size).filter fun k=>(listed.setIfInBounds i true).getD k false):=by
        have e:((List.range ops.size).filter fun k=>listed.getD k false)=((List.range ops.size).filter fun k=>(listed.setIfInBounds i true).getD k false).filter (fun k=>listed.getD k false):=by
         rw[List.filter_filter]
         refine List.filter_congr fun k _=>?_
         by_cases kK:k=i
         ·subst kK;rw[d_];simp
         ·rw[iU k kK];simp
        rw[e]
        exact List.filter_sublist
       refine Nat.lt_of_le_of_ne oR.length_le fun e=>?_
       have:=oR.eq_of_length e
       have Cw:i∈((List.range ops.size).filter fun k=>(listed.setIfInBounds i true).getD k false):=List.mem_filter.2 ⟨List.mem_range.2 n_,d_⟩
       rw[←this]at Cw
       have:=(List.mem_filter.1 Cw).2
       rw[h0]at this
       cases this
      omega
    unfold wpOpIn
    rw[ho]
    simp only
    cases hg:mJ ops env o.guard with
    |none=>rw[hg]at hk;exact hk.elim
    |some b=>
     have nq:Region.wanted o (yielded ops a.tmps)=b:=jN (l:=env) (o:=o) hg hZ
     rw[hg]at hk
     cases b with
     |true=>
      rw[if_pos nq]
      exact Oper.wpIn_mono (fun a' w' ⟨v,he,dP,hw,eO,lB⟩=>hw▸jK a' dP v he eO lB) (hk a hZ)
     |false=>
      rw[if_neg (by rw[nq];simp)]
      exact⟨fun f _=>hF f,jK _ g' undef rfl (by unfold yA;split;exact G.le.refl _;exact aZ.refl _) hk⟩
 refine key ops.size _ a g.dr (by simp) ⟨G.le.refl _,fun _=>aZ.refl _⟩ ha (fun i hi hl=>?_) (fun j _ hj=>by simp[hj]) (fun k o hl=>?_) (by omega)
 ·simp only[Array.getD_eq_getD_getElem?,Array.getElem?_replicate]at hl
  split at hl<;>simp at hl
 ·simp only[Array.getD_eq_getD_getElem?,Array.getElem?_replicate]at hl
  split at hl<;>simp at hl
variable {r':List Nat} {e:Nat} {os:List Oper} {o:Oper} {l:Env} {g:G}
theorem h_{i:Nat}(h:vI F P N ds ops Q φs l0 gd r' e i o)(h2:np F P N ds ops Q φs l0 gd r' e (i+1) os):np F P N ds ops Q φs l0 gd r' e i (o::os):=⟨h,h2⟩
theorem It{i:Nat}:np F P N ds ops Q φs l0 gd r' e i []:=trivial
theorem nS{g':G}: ∀(js:List (Nat×Nat)) (l:Env) (k k':Env→Prop),(∀env,k env→k' env)→QA φs g' js l k→QA φs g' js l k'
 |[],_,_,_,hk,h=>hk _ h
 |_::r,_,k,k',hk,h=>fun v hv=>nS r _ k k' hk (h v hv)
theorem ES{i:Nat}(fu:Nat.beq i e=false){g':G}{env:Env}(hd:DK F P N ds ops Q (gP φs i) g' o env):(match mJ ops env o.guard with
  |some true=>cT F P N ds o env g'.w Q fun v w'=> ∃dP,dP.w=w'∧yA e i g' dP∧(gP φs i).p v dP
  |some false=>(gP φs i).p undef g'
  |none=>False):=by
 have Rj:i≠e:=fun x=>by subst x;simp at fu
 unfold DK at hd
 unfold yA
 simp only[if_neg Rj]
 exact hd
theorem mC{i:Nat}{js:List (Nat×Nat)}(hj:eQ ops o=js)(fu:Nat.beq i e=false)(ha:r'.contains i=true)(h: ∀g',aZ gd g'→QA φs g' js l0 (DK F P N ds ops Q (gP φs i) g' o)):vI F P N ds ops Q φs l0 gd r' e i o:=by
 subst hj
 intro g' _ hf
 exact nS _ _ _ _ (fun env hd=>ES fu hd) (h g' (hf (.inl ha)))
theorem ET{i:Nat}{js:List (Nat×Nat)}(hj:eQ ops o=js)(fu:Nat.beq i e=false)(h: ∀g',gd.le g'→QA φs g' js l0 (DK F P N ds ops Q (gP φs i) g' o)):vI F P N ds ops Q φs l0 gd r' e i o:=by
 subst hj
 intro g' hf _
 exact nS _ _ _ _ (fun env hd=>ES fu hd) (h g' hf)
def DM(F:Fence)(P:Program)(N:Nat)(ds:List Deferred)(ops:Array Oper)(Q:Exit→Act→World→Prop)(φ:Fact)(g':G)(o:Oper)(env:Env):Prop:=
 mJ ops env o.guard=some true∧cT F P N ds o env g'.w Q fun v w'=> ∃dP,dP.w=w'∧g'.le dP∧φ.p v dP
theorem Iu{js:List (Nat×Nat)}(hj:eQ ops o=js)(h: ∀g',aZ gd g'→QA φs g' js l0 (DM F P N ds ops Q (gP φs e) g' o)):vI F P N ds ops Q φs l0 gd r' e e o:=by
 subst hj
 intro g' _ hf
 refine nS _ _ _ _ (fun env hd=>?_) (h g' (hf (.inr rfl)))
 obtain⟨hg,hd⟩:=hd
 rw[hg]
 unfold yA
 simp only[if_true]
 exact hd
theorem lL{c:Code}{w:World}{J':Act→World→Prop}(J:Act→World→Prop)(h:W F P N ds c (Exit.then J Q) l w)(h2: ∀a w,J a w→J' a w):W F P N ds c (Exit.then J' Q) l w:=
 fun a ha=>Go.wpIn_mono (h a ha) fun e a w hq=>by cases e<;>first|exact h2 _ _ hq|exact hq
theorem EP.sub{g:G}{b p:Nat}{ys:List Value}(h:EP g b p ys)(i:Nat){v:Value}(hv:ys[i]? =some v):EP g b (p+i*1) [v]:=by
 refine⟨h.1,fun j y hy=>?_⟩
 cases j with
 |zero=>
  simp only[List.getElem?_cons_zero,Option.some.injEq]at hy
  subst hy
  rw[Nat.mul_one,Nat.add_zero];exact h.2 i v hv
 |succ j=>simp at hy
def N'{α:Type}[El α](g0:G)(L:Value→List Value→List cV)(n:Nat)(xs:List α):Fact:=
 ⟨fun v g=> ∃a c cells,v= .slice a n c∧St g0 g (L v cells)∧cO g cells xs,fun _ _ _ hf ⟨a,c,cells,e,h1,h2⟩=>⟨a,c,cells,e,h1.call hf,h2.mono hf.le⟩⟩
theorem cE{w:World}{t:Nat}{u:Value}(v:Value)(hl:lk l t=some u)(e:u=v)(h:WL F P N ds ops Q os (rep t v l) w):WL F P N ds ops Q os l w:=
 fun a ha=>h a (ha.rep hl e)
end Go.K
namespace Go.K
open Go Go.RowKit
variable {F:Fence} {P:Program} {N:Nat} {ds:List Deferred} {l l':Env} {a:Act} {w:World} {Q:Exit→Act→World→Prop} {ops:Array Oper} {os:List Oper} {o:Oper}
variable {g0 g g':G} {L:List cV} {K:Value→World→Prop}
theorem yB{c1 c2 us:List Value}{off:Nat}(h:off+us.length≤c1.length):lF (c1++c2) off us=lF c1 off us++c2:=by
 unfold lF
 rw[List.take_append_of_le_length (by omega),List.drop_append_of_le_length (by omega)]
 simp[List.append_assoc]
theorem vJ{c1 c2 us:List Value}{off:Nat}:lF (c1++c2) (c1.length+off) us=c1++lF c2 off us:=by
 unfold lF
 rw[List.take_append,List.take_of_length_le (by omega),Nat.add_sub_cancel_left,List.drop_append,List.drop_of_length_le (by omega),List.nil_append,
  show c1.length+off+us.length-c1.length=off+us.length from by omega]
 simp[List.append_assoc]
theorem cO.o5{α:Type}[El α]{us:List Value}{off:Nat}{x':α}(Oa:off+us.length≤El.k α): ∀{xs:List α} {cells:List Value},cO g cells xs→ ∀(i:Nat) (x:α),xs[i]? =some x→(∀ys,El.rc g ys x→El.rc g (lF ys off us) x')→
  cO g (lF cells (i*El.k α+off) us) (xs.set i x')
 |[],_,_,i,x,hi,_=>by simp at hi
 |y::xs,_,⟨c1,c2,e,h1,h2⟩,0,x,hi,hf=>by
  simp only[List.getElem?_cons_zero,Option.some.injEq]at hi
  subst hi
  subst e
  rw[Nat.zero_mul,Nat.zero_add,yB (by rw[El.len h1];exact Oa)]
  exact⟨_,c2,rfl,hf c1 h1,h2⟩
 |y::xs,_,⟨c1,c2,e,h1,h2⟩,i+1,x,hi,hf=>by
  subst e
  have:=cO.o5 Oa h2 i x (by simpa using hi) hf
  rw[show(i+1)*El.k α+off=c1.length+(i*El.k α+off)from by rw[El.len h1,Nat.add_mul];omega,vJ]
  exact⟨c1,_,rfl,h1,this⟩
theorem yC{α:Type}[El α](R:G→G→Value→Prop)(R':G→G→Value→Prop){f:FuncId}(hc:ag P f)(hF: ∀f,F.fn f)(tQ:F.depth=none){x:Operand}{args:Array Operand}{ts:Array TypeId}{first captured:Array Value}{vs aa:List Value}
  (ho:o.op= .call {callee:=.value x,args,argTypes:=ts}) (hx:ev l x=some (.func (.func f) first captured)) (ha:rP l args.toList=some vs) (has:first.toList++vs++captured.toList=aa)
  (hs:St g0 g L) (i:Nat) {e:TypeId} {v:Value} {n:Nat} {cells:List Value} {xs:List α} (hi:L[i]? =some (.row e (El.k α) v n cells)) (hr:cO g cells xs)
  (h: ∀gf,g.le gf→gf.w=g.w→Rs gf v xs→CallsIn F 0 P f aa.toArray gf.w (cR gf (R gf)))
  (hR: ∀gf g2 g3 v,gf.w=g.w→aZ gf g2→g3.w=g2.w→aZ g g3→(∀b,g3.im b→g2.im b)→R gf g2 v→R' g g3 v)
  (k: ∀g' v,aZ g g'→R' g g' v→K v g'.w):cT F P N ds o l g.w Q K:=by
 have dZ:=hs.own i _ hi
 have bh: ∀b,o6 v=some b→b<g.w.heap.size:=fun b hb=>(dZ.1.lt b hb).2
 have py:Rs (g.fz (o6 v) bh) v xs:=dZ.1.rs hr (G.ph g _ _) fun b hb=>⟨.inr hb,rfl⟩
 refine ni hc hF tQ ho hx ha has (CallsIn.mono (h (g.fz (o6 v) bh) (G.ph g _ bh) rfl py) ?_)
 rintro _ _ ⟨g2,u,rfl,hf,rfl,U5⟩
 refine⟨u,rfl,?_⟩
 have ff:aZ g (⟨g2.w,fun b=>g2.im b∧o6 v≠some b,fun b h=>g2.lt b h.1⟩:G):=⟨hf.below,fun b hb=>by
  have h1:=hf.im b hb
  constructor
  ·intro h
   rcases h1.1 h.1 with h'|h'
   ·exact h'
   ·exact absurd h' h.2
  ·intro h
   exact⟨h1.2 (.inl h),fun h'=>dZ.2 b h' h⟩⟩
 exact k ⟨g2.w,fun b=>g2.im b∧o6 v≠some b,fun b h=>g2.lt b h.1⟩ u ff (hR (g.fz (o6 v) bh) g2 _ u rfl hf rfl ff (fun b h=>h.1) U5)
end Go.K
namespace Go.K
open Go Go.RowKit Go.ChangeShapes Go.WideShapes Go.Deep
def r_(W:World):G:=⟨W,fun b=>b<W.heap.size,fun _ h=>h⟩
variable {P:Program}
def Bm(P:Program)(t:TypeId){α:Type}[El α](good:α→Prop):Prop:=
 ∀(H:Type) (enc:TypeId×Value→H) (W:World) (fuel:Nat) (cs:List Value) (x:DataW H×List MemPlace),DataW.trod enc P W 0 (fun _=>true) true fuel t cs=some x→ ∃y:α,El.rc (r_ W) cs y∧good y
theorem qW{W:World}{a:Addr}{v:Value}(h:W.cell? a=some v):a.spot=none∧a.block<W.heap.size:=by
 unfold World.cell? at h
 split at h
 ·rename_i c t f hh
  split at h
  ·cases h
  ·rename_i hs
   refine⟨by simpa using hs,(Array.getElem?_eq_some_iff.1 hh).1⟩
 ·cases h
theorem Ag{α:Type}[El α]{good:α→Prop}(W:World)(a:Addr)(k n:Nat)(hk:k=El.k α)(h: ∀i,i<n→ ∃cs',cs'.length=k∧(∀j,j<k→W.cell? ((a.add (i*k)).add j)=cs'[j]?)∧ ∃y:α,El.rc (r_ W) cs' y∧good y):
  ∃(cells:List Value) (xs:List α),xs.length=n∧cO (r_ W) cells xs∧(∀y∈xs,good y)∧ ∀(j:Nat) y,cells[j]? =some y→W.cell? (a.add j)=some y:=by
 induction n with
 |zero=>exact⟨[],[],rfl,rfl,by simp,by simp⟩
 |succ n ih=>
  obtain⟨cells,xs,h1,h2,h3,h4⟩:=ih fun i hi=>h i (by omega)
  obtain⟨cs',hl,hc,y,hy,hg⟩:=h n (by omega)
  have fY:cells.length=n*k:=by rw[h2.len,h1,hk]
  refine⟨cells++cs',xs++[y],by simp[h1],cO.app (ys:=[y]) (show cO _ cs' [y]from⟨cs',[],by rw[List.append_nil],hy,rfl⟩) h2,?_,fun j u hu=>?_⟩
  ·intro z hz
   rcases List.mem_append.1 hz with h|h
   ·exact h3 z h
   ·rw[List.mem_singleton]at h;exact h▸hg
  ·by_cases hj:j<cells.length
   ·rw[List.getElem?_append_left hj]at hu;exact h4 j u hu
   ·rw[List.getElem?_append_right (by omega)]at hu
    have bh:=(List.getElem?_eq_some_iff.1 hu).1
    have:=hc (j-cells.length) (by omega)
    rw[hu]at this
    rw[←this,add_add,fY]
    congr 2
    omega
theorem tK{α:Type}[El α]{good:α→Prop}{t e:TypeId}(ht:P.underlying t=some (.slice e))(hk:P.cellsOf e=El.k α)(he:Bm P e good)
  {H:Type} {enc:TypeId×Value→H} {W:World} {fuel:Nat} {v:Value} {x:DataW H×List MemPlace} (h:DataW.trod enc P W 0 (fun _=>true) true fuel t [v]=some x):
  ∃xs:List α,Rs (r_ W) v xs∧ ∀y∈xs,good y:=by
 rcases open_slice ht h with⟨h0,_⟩|⟨a,len,cap,m,n,D,Pl,mG,_,hl,hm,U6,_,hi⟩
 ·obtain rfl:=(List.cons.inj h0).1
  exact⟨[],Rs.nil _,by simp⟩
 ·obtain rfl:=(List.cons.inj mG).1
  simp only[if_true]at U6
  have Rk:=Ag (good:=good) W a (P.cellsOf e) len hk fun i WQ=>by
   obtain⟨cs',hc,U7⟩:=hi i (by omega)
   obtain⟨_,h1,h2⟩:=World.cells?_some hc
   obtain⟨y,hy,hg⟩:=he H enc W _ cs' _ U7
   exact⟨cs',h1,h2,y,hy,hg⟩
  obtain⟨cells,xs,h1,h2,h3,h4⟩:=Rk
  refine⟨xs,⟨some a,len,cap,rfl,h1.symm,⟨hl,hm⟩,?_⟩,h3⟩
  by_cases h0:len=0
  ·exact .inl h0
  ·right
   have nk:=El.pos (α:=α)
   have fY:cells.length=len*El.k α:=by rw[h2.len,h1]
   have bh:0<cells.length:=by rw[fY];exact Nat.mul_pos (by omega) nk
   have Ck:=h4 0 cells[0] (List.getElem?_eq_getElem bh)
   have U8:a.add 0=a:=by simp[Addr.add]
   rw[U8]at Ck
   obtain⟨hs,hb⟩:=qW Ck
   obtain⟨b,o,s⟩:=a
   simp only at hs
   subst hs
   refine⟨b,o,cells,rfl,hb,h2,fun j y hy=>?_⟩
   have:=h4 j y hy
   rwa [Addr.add_lit]at this
theorem wf_i64{n:Int}(h:(Lit.int .i64 n).wf=true): -9223372036854775808≤n∧n≤9223372036854775807:=by
 simp only[Lit.wf,Bool.and_eq_true,decide_eq_true_eq]at h
 exact h
theorem Co{t:TypeId}(ht:P.underlying t=some (.int .i64)):Bm P t (α:=Int) fun n=> -9223372036854775808≤n∧n≤9223372036854775807:=by
 intro H enc W fuel cs x h
 obtain⟨n,rfl,_,hw⟩:=DataW.trod_int ht h
 exact⟨n,rfl,wf_i64 hw⟩
theorem tJ{t e:TypeId}{n:Nat}(ht:P.underlying t=some (.array n e))(he:P.underlying e=some (.int .i64))(hc:P.cellsOf e=1)(U9:P.cellsOf t=n)
  {H:Type} {enc:TypeId×Value→H} {W:World} {fuel:Nat} {cs:List Value} {x:DataW H×List MemPlace} (h:DataW.trod enc P W 0 (fun _=>true) true fuel t cs=some x):
  cs.length=n∧ ∀i,i<n→ ∃m,cs[i]? =some (.int .i64 m)∧ -9223372036854775808≤m∧m≤9223372036854775807:=by
 obtain⟨xs,m,_,_,hl,lG,hi⟩:=DataW.trod_array ht h
 rw[U9]at hl
 refine⟨hl,fun i Cw=>?_⟩
 have h1:=hi i Cw
 rw[hc,Nat.mul_one,List.getElem?_eq_getElem (by omega)]at h1
 obtain⟨k,hk,_,hw⟩:=DataW.trod_int he h1
 refine⟨k,?_,wf_i64 hw⟩
 have h2:((cs.drop i).take 1)[0]? =some (.int .i64 k):=by rw[hk];rfl
 rw[List.getElem?_take_of_lt (by omega),List.getElem?_drop]at h2
 simpa using h2
end Go.K

/- Parts of the proof, from: Short names of theorems of the library. -/
import Derived.RangeFuncNested
import Derived.RangeFuncBound
import Derived.RangeFuncCalls
import Derived.RangeFuncLeaves
import Derived.RangeFuncRecord
import Derived.OrdersIn
import Derived.WalkKit
import Derived.ChangeBookTie2
namespace Go.K
open Go
abbrev abM:=@Addr.add_lit
abbrev adi:=@Addr.mk.injEq
abbrev abJ:=@Array.ext'
abbrev adr:=@Array.foldl_toList
abbrev acX:=@Array.getD_eq_getD_getElem?
abbrev ac':=@Array.getElem?_eq_getElem
abbrev ab6:=@Array.getElem?_eq_some_iff
abbrev ads:=@Array.getElem?_modify
abbrev adg:=@Array.getElem?_setIfInBounds_ne
abbrev adu:=@Array.getElem?_setIfInBounds_self
abbrev acI:=@Array.getElem?_toList
abbrev ac8:=@Array.toList_map
abbrev adj:=@Array.toList_modify
abbrev abC:=@Array.toList_push
abbrev acE:=@Bool.and_eq_false_iff
abbrev aaA:=@Bool.and_eq_true
abbrev aci:=@Bool.and_false
abbrev abS:=@Bool.eq_false_iff
abbrev acD:=@Bool.eq_iff_iff
abbrev aa6:=@Bool.false_and
abbrev abE:=@Bool.false_or
abbrev adm:=@Bool.not_eq_false'
abbrev ab8:=@Bool.not_eq_true'
abbrev acF:=@Bool.or_eq_false_iff
abbrev abz:=@Bool.or_eq_true
abbrev acj:=@Bool.or_false
abbrev abf:=@Bool.true_and
abbrev abH:=@Bool.true_or
abbrev ab0:=@CallsIn.mono
abbrev acJ:=@Classical.byContradiction
abbrev ac7:=@DataW.trod_int
abbrev ab3:=@wpIn_mono
abbrev aba:=@Iff.rfl
abbrev acz:=@Int.natCast_nonneg
abbrev abl:=@Int.toNat_natCast
abbrev abg:=@Int.toNat_of_nonneg
abbrev ab_:=@List.all_cons
abbrev aa2:=@List.all_eq_true
abbrev abW:=@List.any_eq_true
abbrev aaG:=@List.append_assoc
abbrev aaI:=@List.append_nil
abbrev ab9:=@List.concat_eq_append
abbrev abY:=@List.cons.inj
abbrev ab1:=@List.cons.injEq
abbrev aa0:=@List.cons_append
abbrev adf:=@List.count_pos_iff
abbrev adh:=@List.drop_append_of_le_length
abbrev aca:=@List.drop_drop
abbrev aa7:=@List.drop_eq_getElem_cons
abbrev ack:=@List.drop_left
abbrev acW:=@List.drop_length
abbrev abr:=@List.drop_of_length_le
abbrev ac5:=@List.drop_set_of_lt
abbrev ada:=@List.drop_succ_cons
abbrev acH:=@List.drop_take
abbrev ab':=@List.drop_zero
abbrev aa':=@List.eq_nil_of_length_eq_zero
abbrev ach:=@List.eq_nil_or_concat
abbrev abL:=@List.ext_getElem?
abbrev abe:=@List.filter_append
abbrev abU:=@List.filter_cons
abbrev acS:=@List.filter_cons_of_neg
abbrev ac2:=@List.filter_cons_of_pos
abbrev acU:=@List.filter_eq_self
abbrev adb:=@List.find?_append
abbrev ac4:=@List.flatMap_append
abbrev ade:=@List.flatten_append
abbrev acK:=@List.flatten_cons
abbrev ac_:=@List.flatten_nil
abbrev abK:=@List.foldl_append
abbrev abT:=@List.foldl_cons
abbrev aaP:=@List.getD_eq_getElem?_getD
abbrev abV:=@List.getElem?_append_left
abbrev aby:=@List.getElem?_append_right
abbrev ab2:=@List.getElem?_cons_succ
abbrev abF:=@List.getElem?_cons_zero
abbrev abB:=@List.getElem?_drop
abbrev aas:=@List.getElem?_eq_getElem
abbrev abx:=@List.getElem?_eq_none
abbrev aaN:=@List.getElem?_eq_some_iff
abbrev acG:=@List.getElem?_eraseIdx
abbrev abd:=@List.getElem?_map
abbrev adk:=@List.getElem?_modify
abbrev acT:=@List.getElem?_range
abbrev ac3:=@List.getElem?_replicate
abbrev abG:=@List.getElem?_set
abbrev abt:=@List.getElem?_take_of_lt
abbrev adn:=@List.getElem_append_left
abbrev acR:=@List.getElem_drop
abbrev aaQ:=@List.getElem_mem
abbrev acn:=@List.getElem_take
abbrev ac1:=@List.getLast?_concat
abbrev ac6:=@List.getLast?_eq_getElem?
abbrev acm:=@List.isPrefixOf_iff_prefix
abbrev aal:=@List.length_append
abbrev aaw:=@List.length_cons
abbrev aaM:=@List.length_drop
abbrev acx:=@List.length_eq_zero_iff
abbrev abq:=@List.length_filter_le
abbrev aaS:=@List.length_map
abbrev aay:=@List.length_nil
abbrev abb:=@List.length_pos_iff
abbrev acN:=@List.length_range
abbrev abI:=@List.length_set
abbrev aaF:=@List.length_singleton
abbrev aat:=@List.length_take
abbrev aa3:=@List.map_append
abbrev acq:=@List.map_congr_left
abbrev aa8:=@List.map_cons
abbrev abw:=@List.map_map
abbrev acy:=@List.map_nil
abbrev acu:=@List.map_set
abbrev aaJ:=@List.mem_append
abbrev aav:=@List.mem_cons
abbrev aaR:=@List.mem_cons_of_mem
abbrev aaT:=@List.mem_cons_self
abbrev ab4:=@List.mem_filter
abbrev aa4:=@List.mem_iff_getElem
abbrev acZ:=@List.mem_iff_getElem?
abbrev aaU:=@List.mem_map
abbrev abm:=@List.mem_of_getElem?
abbrev abX:=@List.mem_of_mem_take
abbrev aa9:=@List.mem_range
abbrev aaL:=@List.mem_singleton
abbrev acM:=@List.mergeSort_perm
abbrev aa1:=@List.nil_append
abbrev acp:=@List.nodup_append
abbrev acL:=@List.nodup_cons
abbrev abi:=@List.not_mem_nil
abbrev abN:=@List.pairwise_append
abbrev aaZ:=@List.pairwise_cons
abbrev abu:=@List.pairwise_iff_getElem
abbrev acO:=@List.perm_append_comm
abbrev abA:=@List.perm_middle
abbrev acs:=@List.range_succ
abbrev acw:=@List.set_append_right
abbrev ace:=@List.set_eq_take_append_cons_drop
abbrev acr:=@List.singleton_append
abbrev acC:=@List.size_toArray
abbrev acb:=@List.takeWhile_cons
abbrev aaV:=@List.take_add_one
abbrev aaY:=@List.take_append_drop
abbrev acY:=@List.take_append_of_le_length
abbrev acf:=@List.take_left
abbrev acP:=@List.take_left'
abbrev aa_:=@List.take_length
abbrev aaD:=@List.take_of_length_le
abbrev aaX:=@List.take_succ_eq_append_getElem
abbrev acg:=@List.zip_map'
abbrev ac0:=@MapKept.bytes_beq
abbrev acQ:=@MapKept.run_getObj_map
abbrev abv:=@Nat.add_assoc
abbrev abh:=@Nat.add_mul
abbrev abO:=@Nat.add_sub_cancel_left
abbrev abj:=@Nat.add_zero
abbrev acv:=@Nat.ble_eq_true_of_le
abbrev abQ:=@Nat.blt_eq
abbrev abZ:=@Nat.eq_of_beq_eq_true
abbrev ab7:=@Nat.le_of_ble_eq_true
abbrev aaz:=@Nat.le_refl
abbrev aaC:=@Nat.le_trans
abbrev abp:=@Nat.lt_of_lt_of_le
abbrev abc:=@Nat.lt_or_ge
abbrev abD:=@Nat.min_eq_left
abbrev acB:=@Nat.mul_le_mul_right
abbrev aaW:=@Nat.mul_one
abbrev aco:=@Nat.not_lt_zero
abbrev abo:=@Nat.zero_add
abbrev aar:=@Nat.zero_le
abbrev abP:=@Nat.zero_mul
abbrev abR:=@Oper.semAt_eq
abbrev acA:=@Option.bind_some
abbrev ab5:=@Option.getD_some
abbrev abk:=@Option.map_eq_some_iff
abbrev abn:=@Option.map_some
abbrev aax:=@Option.some.inj
abbrev aau:=@Option.some.injEq
abbrev acd:=@Option.toList_some
abbrev aaB:=@Prod.mk.injEq
abbrev aaH:=@Result.andThen_ok
abbrev aaE:=@Sem.run_bind
abbrev aa5:=@Sem.run_pure
abbrev aaO:=@Value.slice.inj
abbrev aaK:=@Value.slice.injEq
abbrev vI (n:Int):Value:=.int .i64 n
abbrev vA (b:Nat):Option Addr:=some ⟨b,0,none⟩
abbrev vP (b:Nat):Value:=.pointer (some ⟨b,0,none⟩)
abbrev Env:=List (Nat×Value)
def lk:Env→Nat→Option Value
 |[],_=>none
 |(k,v)::r,t=>bif Nat.beq k t then some v else lk r t
theorem dz(d:Nat)(v:Value)(l:Env):lk ((d,v)::l) d=some v:=by simp[lk]
theorem cG{d t:Nat}(v:Value)(l:Env)(h:d≠t):lk ((d,v)::l) t=lk l t:=by
 have e:Nat.beq d t=false:=by
  cases hb:Nat.beq d t with
  |false=>rfl
  |true=>exact absurd (abZ hb) h
 simp[lk,e]
structure Fr(N:Nat)(ds:List Deferred)(l:Env)(a:Act):Prop where
 defers:a.defers=ds
 size:a.tmps.size=N
 get: ∀t v,lk l t=some v→a.tmps[t]? =some v
variable {F:Fence} {P:Program} {N:Nat} {ds:List Deferred} {l l':Env} {a:Act} {w:World}
def ev(l:Env):Operand→Option Value
 | .tmp t=>lk l t
 | .const v=>some v
 | .global g=>some (vP g)
 | .func f=>some (.func (.func f) #[] #[])
theorem Fr.ev(h:Fr N ds l a){x:Operand}{v:Value}(hx:ev l x=some v):a.eval x=v:=by
 cases x with
 |tmp t=>
  have:=h.get t v hx;simp only[Act.eval,acX,this,ab5]
 |const c=>simp only[K.ev,aau]at hx;exact hx
 |global c=>simp only[K.ev,aau]at hx;exact hx
 |func c=>simp only[K.ev,aau]at hx;exact hx
def pt(d:Option Tmp)(v:Value)(l:Env):Env:=
 match d with
 |some d=>(d,v)::l
 |none=>l
def RQ(N:Nat)(d:Option Tmp):Bool:=
 match d with
 |some d=>Nat.blt d N
 |none=>true
theorem Fr.put(h:Fr N ds l a){d:Option Tmp}(hd:RQ N d=true)(v:Value):Fr N ds (pt d v l) (a.put d v):=by
 cases d with
 |none=>exact h
 |some d=>
  have aV:d<N:=by simpa [RQ,abQ]using hd
  refine⟨h.defers,by simp[Act.put,h.size],fun t u hu=>?_⟩;simp only[Act.put];by_cases e:d=t
  ·subst e;simp only[pt,dz,aau]at hu;subst hu;rw[adu,if_pos (by rw[h.size];exact aV)]
  rw[adg e];simp only[pt,cG _ _ e]at hu;exact h.get t u hu
theorem Fr.sub(h:Fr N ds l a)(hs: ∀t v,lk l' t=some v→lk l t=some v):Fr N ds l' a:=
 ⟨h.defers,h.size,fun t v ht=>h.get t v (hs t v ht)⟩
def Bd:Env→Env→Prop
 |[],_=>True
 |(t,v)::r,l=>lk l t=some v∧Bd r l
theorem Bd.spec: ∀{l' l:Env},Bd l' l→ ∀t v,lk l' t=some v→lk l t=some v
 |[],_,_,t,v,h=>by simp[lk]at h
 |(k,u)::r,l,hs,t,v,h=>by
  by_cases e:k=t
  ·subst e;rw[dz]at h;exact(aax h)▸hs.1
  rw[cG _ _ e]at h;exact Bd.spec hs.2 t v h
theorem Fr.keep(h:Fr N ds l a)(hs:Bd l' l):Fr N ds l' a:=h.sub hs.spec
def W(F:Fence)(P:Program)(N:Nat)(ds:List Deferred)(c:Code)(Q:Exit→Act→World→Prop)(l:Env)(w:World):Prop:=
 ∀a,Fr N ds l a→c.wpIn F 0 P Q a w
def WL(F:Fence)(P:Program)(N:Nat)(ds:List Deferred)(ops:Array Oper)(Q:Exit→Act→World→Prop)(os:List Oper)(l:Env)(w:World):Prop:=
 ∀a,Fr N ds l a→wpListIn F 0 P ops Q os a w
variable {Q:Exit→Act→World→Prop} {c x y:Code} {ops:Array Oper} {os:List Oper} {o:Oper}
theorem ak(h:W F P N ds x (Exit.then (y.wpIn F 0 P Q) Q) l w):W F P N ds (.seq x y) Q l w:=fun a ha=>wpIn_seq (h a ha)
theorem aw{id:Nat}(h:W F P N ds c (Exit.inBlock id Q) l w):W F P N ds (.block id c) Q l w:=fun a ha=>wpIn_block (h a ha)
theorem au(h: ∀a,Fr N ds l a→Q .ret a w):W F P N ds .ret Q l w:=fun a ha=>wpIn_ret (h a ha)
theorem ar(h: ∀a,Fr N ds l a→Q .normal a w):W F P N ds .skip Q l w:=fun a ha=>wpIn_skip (h a ha)
theorem NW{k:Nat}(h: ∀a,Fr N ds l a→Q .normal a w):W F P N ds (.label k) Q l w:=fun a ha=>wpIn_label (h a ha)
theorem aJ{id:Nat}(h: ∀a,Fr N ds l a→Q (.exit id) a w):W F P N ds (.exit id) Q l w:=fun a ha=>wpIn_exit (h a ha)
theorem QJ{z:Operand}(hz:ev l z=some (.bool true))(h:W F P N ds x Q l w):W F P N ds (.cond z x y) Q l w:=
 fun a ha=>wpIn_cond_true (ha.ev hz) (h a ha)
theorem N4{z:Operand}(hz:ev l z=some (.bool false))(h:W F P N ds y Q l w):W F P N ds (.cond z x y) Q l w:=
 fun a ha=>wpIn_cond_false (ha.ev hz) (h a ha)
theorem aG{z:Operand}{b:Bool}(hb:b=true)(hz:ev l z=some (.bool b))(h:W F P N ds x Q l w):W F P N ds (.cond z x y) Q l w:=
 QJ (hb▸hz) h
theorem bg{z:Operand}{b:Bool}(hb:b=false)(hz:ev l z=some (.bool b))(h:W F P N ds y Q l w):W F P N ds (.cond z x y) Q l w:=
 N4 (hb▸hz) h
theorem ah{id:Nat}(h:WL F P N ds ops Q ops.toList l w):W F P N ds (.region id ops false) Q l w:=fun a ha=>wpIn_region_list (h a ha)
theorem tD(hs:Bd l' l)(h:W F P N ds c Q l' w):W F P N ds c Q l w:=fun a ha=>h a (ha.keep hs)
theorem aZ(I:Nat→Act→World→Prop)(n:Nat)(h0: ∀a,Fr N ds l a→I n a w)
  (step: ∀n a w,I n a w→c.wpIn F 0 P (Exit.then (fun a' w'=> ∃m,m<n∧I m a' w') Q) a w):W F P N ds (.loop c) Q l w:=by
 intro a ha b k cs Tg hb hr;have key: ∀n a w,I n a w→ ∃e a' w',Q e a' w'∧ArrivesIn (Machine.fenced P F) P (lone (b.atR a (.code c:: .inLoop c::k)) cs w) b k cs e a' w':=by
  intro n
  induction n using Nat.strongRecOn with
  |_ n ih=>
   intro a w hI;obtain⟨e,a₁,w₁,hq,tK⟩:=step n a w hI b (.inLoop c::k) cs Tg hb hr;cases e with
   |normal=>
    obtain⟨m,aV,hI₁⟩:=hq;obtain⟨e₂,a₂,w₂,hq₂,Th⟩:=ih m aV a₁ w₁ hI₁;exact⟨e₂,a₂,w₂,hq₂,.of_steps (StepsIn.trans tK (.one (fenced_calm hb hr rfl) stepR_inLoop)) Th⟩
   |exit id=>exact⟨_,a₁,w₁,hq,.pass (x:=.inLoop c) rfl (fun _ _=> .inl (by simp)) tK⟩
   |goto l=>exact⟨_,a₁,w₁,hq,.pass (x:=.inLoop c) rfl (fun _ _=> .inl (by simp)) tK⟩
   |ret=>exact⟨_,a₁,w₁,hq,.pass (x:=.inLoop c) rfl (fun _ _=> .inl (by simp)) tK⟩
   |panic ch=>exact⟨_,a₁,w₁,hq,.pass (x:=.inLoop c) rfl (fun _ _=> .inl (by simp)) tK⟩
   |outgrown=>exact⟨_,a₁,w₁,hq,.pass (x:=.inLoop c) rfl (fun _ _=> .inl (by simp)) tK⟩
 obtain⟨e,a',w',hq,tK⟩:=key n a w (h0 a ha);exact⟨e,a',w',hq,.of_steps (.one (fenced_calm hb hr rfl) stepR_loop) tK⟩
def cQ(F:Fence)(P:Program)(N:Nat)(ds:List Deferred)(o:Oper)(l:Env)(w:World)(Q:Exit→Act→World→Prop)(K:Value→World→Prop):Prop:=
 ∀a,Fr N ds l a→o.wpIn F 0 P a w (fun a' w'=> ∃v,a'=a.put o.dst v∧K v w') Q
def gd(ops:Array Oper)(l:Env)(o:Oper):Option Bool:=
 match o.guard with
 |none=>some true
 |some (j,want)=>
  match(ops[j]?).bind (·.dst)with
  |none=>none
  |some d=>
   match lk l d with
   |some (.bool b)=>some (b==want)
   |_=>none
theorem N5{Ti:Bool}(h:gd ops l o=some Ti)(ha:Fr N ds l a):Region.wanted o (yielded ops a.tmps)=Ti:=by
 unfold gd at h;unfold Region.wanted yielded;cases hg:o.guard with
 |none=>simp only[hg,aau]at h;simp[←h]
 |some p=>
  obtain⟨j,want⟩:=p;simp only[hg]at h;cases hd:(ops[j]?).bind (·.dst)with
  |none=>simp[hd]at h
  |some d=>
   simp only[hd]at h;cases hl:lk l d with
   |none=>simp[hl]at h
   |some v=>
    have hv:=ha.get d v hl;cases v with
    |bool b=>
     simp only[hl,aau]at h;simp only[hd,acA,hv];rw[←h];cases b<;>cases want<;>rfl
    |_=>simp[hl]at h
theorem an(h: ∀a,Fr N ds l a→Q .normal a w):WL F P N ds ops Q [] l w:=fun a ha=>h a ha
theorem bd(t:Nat){b b':Bool}(hb:b=b')(hl:lk l t=some (.bool b))(h:WL F P N ds ops Q os ((t,.bool b')::l) w):WL F P N ds ops Q os l w:=by
 refine fun a ha=>h a (ha.sub fun s v hs=>?_);by_cases e:t=s
 ·subst e;rw[dz]at hs;rw[hl,hb];exact hs
 rw[cG _ _ e]at hs;exact hs
theorem QK(J:Act→World→Prop){o1 o2:List Oper}(UY:os=o1++o2)(h:WL F P N ds ops (Exit.then J Q) o1 l w)
  (h2: ∀a w,J a w→wpListIn F 0 P ops Q o2 a w):WL F P N ds ops Q os l w:=by
 subst UY;intro a ha;have key: ∀(o1:List Oper) (a:Act) (w:World),wpListIn F 0 P ops (Exit.then J Q) o1 a w→wpListIn F 0 P ops Q (o1++o2) a w:=by
  intro o1
  induction o1 with
  |nil=>exact fun a w h=>h2 a w h
  |cons o o1 ih=>
   intro a w h;simp only[aa0,wpListIn]at h⊢;split
   ·rename_i hw;simp only[hw,if_true]at h;have h':=Oper.wpIn_mono (ih · ·) h;unfold Oper.wpIn at h'⊢;refine⟨h'.1,?_⟩;have h':=h'.2;generalize(o.semAt F.round a.eval).run P w=r at h'⊢;have Tj:LetsOut (Exit.then J Q)→LetsOut Q:=fun⟨a,w,h⟩=>⟨a,w,h⟩
    cases r with
    |ok x w'=>
     cases x<;>simp only[Oper.uponIn]at h'⊢ <;>
      first
       |exact h'
       |exact⟨h'.1,ab0 h'.2 (fun e QL he=>by cases e<;>first|exact he|exact Tj he)⟩
       |exact⟨h'.1,RoundIn.mono h'.2 (fun e QL he=>by cases e<;>first|exact he|exact Tj he)⟩
    |halt x w'=>cases x<;>simp only[Oper.uponIn]at h'⊢ <;>exact h'
   rename_i hw;simp only[hw]at h;exact⟨h.1,ih _ _ h.2⟩
 exact key _ _ _ (h a ha)
theorem bC{v:Value}{K:Value→World→Prop}{w':World}(qP: ∀c,o.op≠ .call c∧o.op≠ .defer c)(h: ∀a,Fr N ds l a→(execOp a.eval o).run P w= .ok (.value v) w')(k:K v w'):
  cQ F P N ds o l w Q K:=by
 intro a ha;unfold Oper.wpIn;refine⟨fun f hf=>?_,?_⟩
 ·unfold Oper.about at hf;cases ho:o.op<;>simp only[ho]at hf<;>first|(cases hf;done)|exact absurd ho (qP _).1
 rw[abR _ _ _ (fun c=>(qP c).2),h a ha];exact⟨v,rfl,k⟩
theorem uT{K:Value→World→Prop}{w':World}(qP: ∀c,o.op≠ .call c∧o.op≠ .defer c)(h: ∀a,Fr N ds l a→(execOp a.eval o).run P w= .ok .skip w')(k:K undef w'):
  cQ F P N ds o l w Q K:=by
 intro a ha;unfold Oper.wpIn;refine⟨fun f hf=>?_,?_⟩
 ·unfold Oper.about at hf;cases ho:o.op<;>simp only[ho]at hf<;>first|(cases hf;done)|exact absurd ho (qP _).1
 rw[abR _ _ _ (fun c=>(qP c).2),h a ha];exact⟨undef,rfl,k⟩
inductive KD where
 |bool|string
 |int (k:IntKind)
 |slice (e:TypeId)
 |arr (n:Nat) (e:TypeId)
 |struct (fs:List (TypeId×Nat))
 |ptr (e:TypeId)
 |map (k e:TypeId)
 |other
def KD.of:TypeDesc→KD
 | .bool=> .bool
 | .string=> .string
 | .int k=> .int k
 | .slice e=> .slice e
 | .array n e=> .arr n e
 | .struct fs=> .struct (fs.toList.map fun f=>(f.type,f.offset))
 | .pointer e=> .ptr e
 | .map k e=> .map k e
 |_=> .other
theorem KD.of_struct{d:TypeDesc}{l:List (TypeId×Nat)}(h:KD.of d= .struct l): ∃fs,d= .struct fs∧l=fs.toList.map fun f=>(f.type,f.offset):=by cases d<;>simp only[KD.of,reduceCtorEq,KD.struct.injEq]at h;exact⟨_,rfl,h.symm⟩
theorem KD.of_slice{d:TypeDesc}{e:TypeId}(h:KD.of d= .slice e):d= .slice e:=by cases d<;>simp only[KD.of,reduceCtorEq,KD.slice.injEq]at h;rw[h]
theorem KD.of_string{d:TypeDesc}(h:KD.of d= .string):d= .string:=by cases d<;>simp only[KD.of,reduceCtorEq]at h;rfl
theorem KD.FD{d:TypeDesc}{n:Nat}{e:TypeId}(h:KD.of d= .arr n e):d= .array n e:=by cases d<;>simp only[KD.of,reduceCtorEq,KD.arr.injEq]at h;rw[h.1,h.2]
structure TI where
 desc:KD
 size:Nat
 bytes:Nat
 zero:Value
abbrev Tb:=List (Nat×TI)
def tl:Tb→Nat→Option TI
 |[],_=>none
 |(k,v)::r,t=>bif Nat.beq k t then some v else tl r t
def TI.fits(P:Program)(t:TypeId)(i:TI):Prop:=
 (∃d,P.underlying t=some d∧KD.of d=i.desc)∧ ∃inf,P.info? t=some inf∧inf.size=i.size∧inf.bytes=i.bytes∧inf.zero=some i.zero
theorem TI.N6{P:Program}{t:TypeId}{i:TI}(h1:(P.underlying t).map KD.of=some i.desc)(h2:(P.info? t).map (fun j=>(j.size,j.bytes,j.zero))=some (i.size,i.bytes,some i.zero)):i.fits P t:=by obtain⟨d,hd,e⟩:=abk.1 h1;obtain⟨inf,hi,e2⟩:=abk.1 h2;simp only[aaB]at e2;exact⟨⟨d,hd,e⟩,inf,hi,e2.1,e2.2.1,e2.2.2⟩
def Tb.ok(P:Program):Tb→Prop
 |[]=>True
 |(t,i)::r=>i.fits P t∧Tb.ok P r
theorem Tb.ok.at{P:Program}: ∀{tb:Tb} (_:tb.ok P) {t:Nat} {i:TI},tl tb t=some i→i.fits P t
 |[],_,t,i,h=>by simp[tl]at h
 |(k,v)::r,ho,t,i,h=>by
  simp only[tl]at h;cases hb:Nat.beq k t with
  |true=>
   rw[hb]at h;simp only[cond_true,aau]at h;have:=abZ hb;subst this;subst h;exact ho.1
  |false=>
   rw[hb]at h;exact Tb.ok.at ho.2 h
def QM(op:BinOp)(x y:Value):Option Value:=
 match x,y with
 | .int k a,.int k' b=>
  if k=k' then
   match op with
   | .add=>some (.int k (k.wrap (a+b)))
   | .sub=>some (.int k (k.wrap (a-b)))
   | .mul=>some (.int k (k.wrap (a*b)))
   | .eql=>some (.bool (a==b))
   | .neq=>some (.bool (a !=b))
   | .lss=>some (.bool (decide (a<b)))
   | .leq=>some (.bool (decide (a≤b)))
   | .gtr=>some (.bool (decide (b<a)))
   | .geq=>some (.bool (decide (b≤a)))
   |_=>none
  else none
 | .string a,.string b=>
  match op with
  | .eql=>some (.bool (a.toList==b.toList))
  | .neq=>some (.bool (!(a.toList==b.toList)))
  | .lss=>some (.bool (Op.bytesLess a.toList b.toList))
  |_=>none
 |_,_=>none
def QN(op:BinOp)(x y:Value):Option Value:=
 match x,y with
 | .int k a,.int k' (.ofNat (n+1))=>
  if k=k' then
   match op with
   | .quo=>some (.int k (k.wrap (a.tdiv (.ofNat (n+1)))))
   | .rem=>some (.int k (a.tmod (.ofNat (n+1))))
   |_=>none
  else none
 |_,_=>none
def YU(op:UnOp)(x:Value):Option Value:=
 match op,x with
 | .not,.bool b=>some (.bool (!b))
 | .neg,.int k n=>some (.int k (k.wrap (0-n)))
 |_,_=>none
def Pf(c a b:Option Value):Option Value:=
 match c with
 |some (.bool true)=>a
 |some (.bool false)=>b
 |_=>none
def xv(l:Env):List Operand→Option (List Value)
 |[]=>some []
 |x::r=>match ev l x,xv l r with
  |some v,some vs=>some (v::vs)
  |_,_=>none
def za(tb:Tb)(b:Builtin)(args:Array Operand)(ts:Array TypeId)(l:Env):Option Value:=
 match b,args.toList with
 | .len,[x]=>
  match ts.toList with
  |[t]=>
   match tl tb t with
   |some i=>
    match i.desc,ev l x with
    | .slice _,some (.slice _ n _)=>some (vI n)
    | .string,some (.string s)=>some (vI s.size)
    |_,_=>none
   |none=>none
  |_=>none
 | .min,[x,y]=>
  match ev l x,ev l y with
  |some (.int k a),some (.int _ b)=>some (.int k (if b<a then b else a))
  |_,_=>none
 | .max,[x,y]=>
  match ev l x,ev l y with
  |some (.int k a),some (.int _ b)=>some (.int k (if a<b then b else a))
  |_,_=>none
 |_,_=>none
def WI(tb:Tb)(l:Env):Op→Option Value
 | .move x=>ev l x
 | .assign x=>ev l x
 | .pick c a b=>Pf (ev l c) (ev l a) (ev l b)
 | .binOp op _ x y _=>
  match op with
  | .quo| .rem=>
   match ev l x,ev l y with
   |some a,some b=>QN op a b
   |_,_=>none
  |_=>
   match ev l x,ev l y with
   |some a,some b=>QM op a b
   |_,_=>none
 | .unOp op _ x=>(ev l x).bind (YU op)
 | .extract x i=>
  match ev l x with
  |some (.tuple vs)=>vs[i]?
  |_=>none
 | .nilCheck x=>
  match ev l x with
  |some (.pointer (some a))=>some (.pointer (some a))
  |_=>none
 | .fieldAddr s x f=>
  match tl tb s with
  |some i=>
   match i.desc with
   | .struct fs=>
    match fs[f]? with
    |some fd=>
     match tl tb fd.1 with
     |some j=>
      match j.size with
      |0=>none
      |_+1=>
       match ev l x with
       |some (.pointer (some a))=>some (.pointer (some (a.add fd.2)))
       |_=>none
     |none=>none
    |none=>none
   |_=>none
  |none=>none
 | .field s x f=>
  match tl tb s with
  |some i=>
   match i.desc with
   | .struct fs=>
    match fs[f]? with
    |some fd=>
     match tl tb fd.1 with
     |some j=>
      match j.desc with
      | .struct _=>none
      | .arr _ _=>none
      |_=>
       match ev l x with
       |some (.agg cs)=>cs[fd.2]?
       |_=>none
     |none=>none
    |none=>none
   |_=>none
  |none=>none
 | .makeFunc fn first captured=>
  match xv l first.toList,xv l captured.toList with
  |some xs,some ys=>some (.func fn xs.toArray ys.toArray)
  |_,_=>none
 | .call {callee:=.builtin b,args,argTypes}=>za tb b args argTypes l
 |_=>none
theorem iP(op:BinOp)(t:TypeId)(x y:Operand)(k k':IntKind)(m n:Int):(eqGuard op t x y (.int k m) (.int k' n)).run P w= .ok () w:=by unfold eqGuard;split<;>rfl
theorem kC(op:BinOp)(t:TypeId)(x y:Operand)(m n:ByteArray):(eqGuard op t x y (.string m) (.string n)).run P w= .ok () w:=by unfold eqGuard;split<;>rfl
theorem Lg{op:BinOp}{t:TypeId}{x y v:Value}(xo yo:Operand)(hq:op≠ .quo∧op≠ .rem)(h:QM op x y=some v):
  (do eqGuard op t xo yo x y;binOp op t x y:Sem Value).run P w= .ok v w:=by
 unfold QM at h;split at h
 ·rename_i k a k' b;split at h
  ·rename_i hk;subst hk;cases op<;>simp_all [iP,binOp,Op.intArith,Op.intCmp]
  cases h
 ·rename_i a b;cases op<;>simp_all [kC,binOp,Op.stringOp]
 cases h
theorem DY{op:BinOp}{t:TypeId}{x y v:Value}(xo yo:Operand)(h:QN op x y=some v):
  (do eqGuard op t xo yo x y;binOp op t x y:Sem Value).run P w= .ok v w:=by
 unfold QN at h;split at h
 ·rename_i k a k' n;have hz: ¬((Int.ofNat (n+1))=0):=by intro e;cases e
  split at h
  ·rename_i hk;subst hk;cases op<;>simp only[reduceCtorEq,aau]at h
   all_goals
    subst h;simp only[aaE,iP,aaH];unfold binOp;simp only[ne_eq,not_true_eq_false,if_false];unfold Op.intDiv;rw[if_neg hz];rfl
  cases h
 cases h
theorem j9(ha:Fr N ds l a): ∀{xs:List Operand} {vs:List Value},xv l xs=some vs→xs.map a.eval=vs
 |[],vs,h=>by simp only[xv,aau]at h;simp[←h]
 |x::r,vs,h=>by
  simp only[xv]at h;cases hx:ev l x with
  |none=>simp[hx]at h
  |some v=>
   cases hr:xv l r with
   |none=>simp[hx,hr]at h
   |some us=>
    simp only[hx,hr,aau]at h;rw[←h,aa8,ha.ev hx,j9 ha hr]
theorem Cr{tb:Tb}(dS:tb.ok P){b:Builtin}{args:Array Operand}{ts:Array TypeId}{t:TypeId}{v:Value}
  (ha:Fr N ds l a) (h:za tb b args ts l=some v):
  (do let d←resolve a.eval {callee:=.builtin b,args,argTypes:=ts} t;invoke d.target d.args:Sem Next).run P w= .ok (.value v) w:=by
 unfold za at h;split at h
 ·rename_i x zb;have zb:args=#[x]:=by apply abJ;simpa using zb
  subst zb;split at h
  ·rename_i t' I';have I':ts=#[t']:=by apply abJ;simpa using I'
   subst I';split at h
   ·rename_i i hi;split at h
    ·rename_i e y n c hd hx;simp only[aau]at h;subst h;obtain⟨⟨d,hu,he⟩,_⟩:=dS.at hi;rw[hd]at he;obtain rfl:=KD.of_slice he;simp[resolve,invoke,builtin,Builtin.len_,ha.ev hx,run_underlying hu,goInt]
    ·rename_i s hd hx;simp only[aau]at h;subst h;obtain⟨⟨d,hu,he⟩,_⟩:=dS.at hi;rw[hd]at he;obtain rfl:=KD.of_string he;simp[resolve,invoke,builtin,Builtin.len_,ha.ev hx,run_underlying hu,goInt]
    cases h
   cases h
  cases h
 ·rename_i x y zb;have zb:args=#[x,y]:=by apply abJ;simpa using zb
  subst zb;split at h
  ·rename_i k m k' n hx hy;simp only[aau]at h;subst h;simp[resolve,invoke,builtin,Builtin.min_,Builtin.min2,ha.ev hx,ha.ev hy]
  cases h
 ·rename_i x y zb;have zb:args=#[x,y]:=by apply abJ;simpa using zb
  subst zb;split at h
  ·rename_i k m k' n hx hy;simp only[aau]at h;subst h;simp[resolve,invoke,builtin,Builtin.max_,Builtin.max2,ha.ev hx,ha.ev hy]
  cases h
 cases h
theorem Ar{b:Builtin}{args:Array Operand}{ts:Array TypeId}(hc:o.op= .call {callee:=.builtin b,args,argTypes:=ts})(f:FuncId)(h:o.about P w a.eval=some f):False:=by unfold Oper.about at h;rw[hc]at h;simp only[resolve,aa5]at h;simp[Target.leads]at h
theorem gM{b:Builtin}{args:Array Operand}{ts:Array TypeId}(hc:o.op= .call {callee:=.builtin b,args,argTypes:=ts}){v:Value}{w':World}{K:Value→World→Prop}
  (h: ∀a,Fr N ds l a→(do let d←resolve a.eval {callee:=.builtin b,args,argTypes:=ts} o.type;invoke d.target d.args:Sem Next).run P w= .ok (.value v) w') (k:K v w'):cQ F P N ds o l w Q K:=by
 intro a ha;unfold Oper.wpIn;refine⟨fun f hf=>(Ar hc f hf).elim,?_⟩;rw[abR _ _ _ (fun c e=>by rw[hc]at e;cases e)];unfold execOp;rw[hc];rw[h a ha];exact⟨v,rfl,k⟩
theorem DZ{fs:Array Field}{f:Nat}{fd:TypeId×Nat}(h:(fs.toList.map fun f=>(f.type,f.offset))[f]? =some fd): ∃x,fs[f]? =some x∧x.type=fd.1∧x.offset=fd.2:=by rw[abd,abk]at h;obtain⟨x,hx,rfl⟩:=h;exact⟨x,by simpa using hx,rfl,rfl⟩
theorem D0{tb:Tb}(dS:tb.ok P){s f:Nat}{i j:TI}{fs:List (TypeId×Nat)}{fd:TypeId×Nat}{n:Nat}{ad:Addr}(hi:tl tb s=some i)(hd:i.desc= .struct fs)(hf:fs[f]? =some fd)
  (hj:tl tb fd.1=some j) (hn:j.size=n+1):(Instr.fieldAt s (.pointer (some ad)) f).run P w= .ok (.pointer (some (ad.add fd.2))) w:=by
 obtain⟨⟨d,hu,he⟩,_⟩:=dS.at hi;rw[hd]at he;obtain⟨U4,rfl,rfl⟩:=KD.of_struct he;obtain⟨YV,hf,e1,e2⟩:=DZ hf;rw[←e1]at hj;rw[←e2];obtain⟨_,inf,h1,h2,_⟩:=dS.at hj;simp[Instr.fieldAt,run_underlying hu,hf,Instr.sureAddr,fieldPlace,sizeOf,typeInfo,h1,h2,hn]
theorem bR(tb:Tb)(dS:tb.ok P){v:Value}{K:Value→World→Prop}(h:WI tb l o.op=some v)(k:K v w):cQ F P N ds o l w Q K:=by
 obtain⟨dst,op,type,pos,after,guard⟩:=o;simp only at h;unfold WI at h;split at h
 ·exact bC (by simp) (fun a ha=>by simp[execOp,ha.ev h]) k
 ·exact bC (by simp) (fun a ha=>by simp[execOp,ha.ev h]) k
 ·rename_i c x y;refine bC (by simp) (fun a ha=>?_) k;unfold Pf at h;split at h
  ·rename_i hc;simp[execOp,ha.ev hc,ha.ev h,asBool]
  ·rename_i hc;simp[execOp,ha.ev hc,ha.ev h,asBool]
  cases h
 ·rename_i op t x y yt;refine bC (by simp) (fun a ha=>?_) k;split at h
  ·split at h
   ·rename_i u v' hx hy;have:=DY (P:=P) (w:=w) (t:=t) x y h;simp only[execOp,ha.ev hx,ha.ev hy,aaE,aa5]at this⊢;rw[this];rfl
   cases h
  ·split at h
   ·rename_i u v' hx hy;have:=DY (P:=P) (w:=w) (t:=t) x y h;simp only[execOp,ha.ev hx,ha.ev hy,aaE,aa5]at this⊢;rw[this];rfl
   cases h
  rename_i n1 n2;split at h
  ·rename_i u v' hx hy;have:=Lg (P:=P) (w:=w) (t:=t) x y ⟨n1,n2⟩ h;simp only[execOp,ha.ev hx,ha.ev hy,aaE,aa5]at this⊢;rw[this];rfl
  cases h
 ·rename_i op t x;refine bC (by simp) (fun a ha=>?_) k;cases hx:ev l x with
  |none=>simp[hx]at h
  |some u=>
   simp only[hx,acA]at h;simp only[execOp,ha.ev hx];unfold YU at h;split at h
   ·simp only[aau]at h;subst h;simp[Op.unary]
   ·simp only[aau]at h;subst h;simp[Op.unary,Op.intArith]
   cases h
 ·rename_i x i;refine bC (by simp) (fun a ha=>?_) k;split at h
  ·rename_i vs hx;simp[execOp,ha.ev hx,Instr.extract,h]
  cases h
 ·rename_i x;refine bC (by simp) (fun a ha=>?_) k;split at h
  ·rename_i ad hx;simp only[aau]at h;subst h;simp[execOp,ha.ev hx]
  cases h
 ·rename_i s x f;refine bC (by simp) (fun a ha=>?_) k;split at h
  ·rename_i i hi;split at h
   ·rename_i fs hd;split at h
    ·rename_i fd hf;split at h
     ·rename_i j hj;split at h
      ·cases h
      rename_i n hn;split at h
      ·rename_i ad hx;simp only[aau]at h;subst h;simp[execOp,ha.ev hx,D0 dS hi hd hf hj hn]
      cases h
     cases h
    cases h
   cases h
  cases h
 ·rename_i s x f;refine bC (by simp) (fun a ha=>?_) k;split at h
  ·rename_i i hi;split at h
   ·rename_i fs hd;split at h
    ·rename_i fd hf;split at h
     ·rename_i j hj;split at h
      ·cases h
      ·cases h
      rename_i n1 n2;split at h
      ·rename_i cs hx;obtain⟨⟨d,hu,he⟩,_⟩:=dS.at hi;rw[hd]at he;obtain⟨U4,rfl,rfl⟩:=KD.of_struct he;obtain⟨YV,hf,e1,e2⟩:=DZ hf;obtain⟨⟨d',hv,HD⟩,_⟩:=dS.at hj;rw[←e1]at hv;rw[←e2]at h;have U5:(isAgg YV.type).run P w= .ok false w:=by simp only[isAgg,aaE,run_underlying hv,aaH];cases d'<;>first|rfl|exact(n1 _ HD.symm).elim|exact(n2 _ _ HD.symm).elim
       simp[execOp,ha.ev hx,Instr.field,run_underlying hu,hf,asAgg,part,U5,h]
      cases h
     cases h
    cases h
   cases h
  cases h
 ·rename_i fn first captured
  refine bC (by simp) (fun a ha=>?_) k;split at h
  ·rename_i xs ys hx hy;simp only[aau]at h;subst h;have e1:=j9 ha hx;have e2:=j9 ha hy;have f1:first.map a.eval=xs.toArray:=by apply abJ;simpa using e1
   have f2:captured.map a.eval=ys.toArray:=by apply abJ;simpa using e2
   simp[execOp,Instr.makeFunc,f1,f2]
  cases h
 ·exact gM rfl (fun a ha=>Cr dS ha h) k
 cases h
open Go.RowKit
structure G where
 w:World
 im:Nat→Prop
 lt: ∀b,im b→b<w.heap.size
def G.le(g g':G):Prop:=∀b,g.im b→g'.im b∧g'.w.heap[b]? =g.w.heap[b]?
theorem G.le.refl(g:G):g.le g:=fun _ h=>⟨h,rfl⟩
theorem G.le.trans{a b c:G}(h:a.le b)(k:b.le c):a.le c:=fun i hi=>⟨(k i (h i hi).1).1,((k i (h i hi).1).2).trans (h i hi).2⟩
structure bW(g g':G):Prop where
 below:Below g.w.heap.size g.w g'.w
 im: ∀b,b<g.w.heap.size→(g'.im b↔g.im b)
theorem bW.refl(g:G):bW g g:=⟨Below.refl _ _,fun _ _=>aba⟩
theorem bW.trans{a b c:G}(h:bW a b)(k:bW b c):bW a c:=
 ⟨h.below.trans (k.below.mono h.below.size),fun i hi=>(k.im i (abp hi h.below.size)).trans (h.im i hi)⟩
theorem bW.le{g g':G}(h:bW g g'):g.le g':=fun b hb=>⟨(h.im b (g.lt b hb)).2 hb,h.below.block b (g.lt b hb)⟩
def uj:Value→Option Nat
 | .slice (some a) _ c=>bif Nat.beq c 0 then none else some a.block
 |_=>none
theorem mA(a:Option Addr)(n:Nat):uj (.slice a n 0)=none:=by cases a<;>rfl
theorem lx{a:Addr}{n c:Nat}(h:c≠0):uj (.slice (some a) n c)=some a.block:=by
 cases c with
 |zero=>exact absurd rfl h
 |succ c=>rfl
theorem nH{v:Value}{b:Nat}(h:uj v=some b): ∃a n c,v= .slice (some a) n c∧c≠0∧a.block=b:=by
 unfold uj at h;split at h
 ·rename_i a n c;cases c with
  |zero=>simp at h
  |succ c=>exact⟨a,n,c+1,rfl,by omega,aax h⟩
 cases h
def gO(w:World)(b:Nat)(cur:Array Value)(e:TypeId):Prop:=∃fz:Nat×Nat,w.heap[b]? =some (.cells cur e fz)∧(fz=(0,0)∨cur.size≤fz.1)
theorem gO.plain{w:World}{b:Nat}{cur:Array Value}{e:TypeId}(h:w.heap[b]? =some (.cells cur e (0,0))):gO w b cur e:=⟨_,h,.inl rfl⟩
theorem gO.lt{w:World}{b:Nat}{cur:Array Value}{e:TypeId}(h:gO w b cur e):b<w.heap.size:=by obtain⟨_,h,_⟩:=h;exact(ab6.1 h).1
theorem gO.of_eq{w w':World}{b:Nat}{cur:Array Value}{e:TypeId}(h:gO w b cur e)(hb:w'.heap[b]? =w.heap[b]?):gO w' b cur e:=by obtain⟨fz,h,h2⟩:=h;exact⟨fz,hb.trans h,h2⟩
theorem gO.cell{w:World}{b o:Nat}{cur:Array Value}{e:TypeId}{y:Value}(h:gO w b cur e)(hy:cur[o]? =some y):w.cell? ⟨b,o,none⟩=some y:=by obtain⟨_,h,_⟩:=h;simp[World.cell?,h,hy]
theorem gO.set{w:World}{b:Nat}{cur cs:Array Value}{e:TypeId}(h:gO w b cur e)(hs:cs.size=cur.size):gO (w.setRow b cs) b cs e:=by obtain⟨fz,h,h2⟩:=h;exact⟨fz,setRow_heap _ _ _ _ _ _ h,by rw[hs];exact h2⟩
theorem jz{P:Program}(b o:Nat)(e:TypeId): ∀(us:List Value) (i:Nat) (cur:Array Value) (w:World),gO w b cur e→o+i+us.length≤cur.size→(∀u∈us,u.oneCell'=true)→
  (storeCells ⟨b,o,none⟩ us i).run P w= .ok () (w.setRow b (cur.toList.take (o+i)++us++cur.toList.drop (o+i+us.length)).toArray)
 |[],i,cur,w,⟨fz,hg,_⟩,_,_=>by simp only[storeCells,aaI,aay,abj,aaY,Array.toArray_toList];rw[setRow_self w b cur e fz hg];rfl
 |u::rest,i,cur,w,hc,hl,h1=>by
  have aV:o+i<cur.size:=by rw[aaw]at hl;omega
  have ih:=jz (P:=P) b o e rest (i+1) (cur.setIfInBounds (o+i) u) (w.setRow b (cur.setIfInBounds (o+i) u)) (hc.set (by simp)) (by rw[aaw]at hl;simp;omega) fun x hx=>h1 x (by simp[hx]);obtain⟨fz,hg,hz⟩:=hc;have WM:w.frozen? ⟨b,o+i,none⟩=false:=by
   rcases hz with rfl|hz
   ·simp[World.frozen?,hg]
   simp only[World.frozen?,hg,acE,decide_eq_false_iff_not];left;omega
  have dj:(store ((⟨b,o,none⟩:Addr).add i) u).run P w= .ok () (w.setRow b (cur.setIfInBounds (o+i) u)):=by rw[abM,run_store P w _ u _ (h1 u (by simp)),show w.cell? ⟨b,o+i,none⟩=some cur[o+i]from by simp[World.cell?,hg,aV]];simp[WM,setCell_eq_setRow w b (o+i) cur e fz u hg]
  simp only[storeCells,aaE,dj,aaH,ih,setRow_setRow];congr 3;have e2:=list_seg_step cur.toList (o+i) u rest (by rw[aaw]at hl;simp;omega);simpa [Array.toList_setIfInBounds,abv]using e2
def Row(B:Nat)(e:TypeId)(k:Nat)(v:Value)(n:Nat)(xs:List Value)(w:World):Prop:=
 xs.length=n*k∧((n=0∧ ∃a,v= .slice a 0 0)∨
  ∃b off cap cur,v= .slice (some ⟨b,off,none⟩) n cap∧B≤b∧gO w b cur e∧n≤cap∧cap≤maxLen∧cur.size=off+cap*k∧(cur.toList.drop off).take (n*k)=xs)
inductive dc where
 |obj (b:Nat) (o:Obj)
 |row (e:TypeId) (k:Nat) (v:Value) (n:Nat) (xs:List Value)
def dc.xy:dc→Option Nat
 | .obj b _=>some b
 | .row _ _ v _ _=>uj v
def dc.holds(B:Nat)(g:G):dc→Prop
 | .obj b o=>B≤b∧g.w.heap[b]? =some o∧ ¬g.im b
 | .row e k v n xs=>Row B e k v n xs g.w∧ ∀b,uj v=some b→ ¬g.im b
theorem Row.lt{B:Nat}{e:TypeId}{k:Nat}{v:Value}{n:Nat}{xs:List Value}{w:World}(h:Row B e k v n xs w): ∀b,uj v=some b→B≤b∧b<w.heap.size:=by
 intro b hb;rcases h.2 with⟨_,a,rfl⟩|⟨b',off,cap,cur,rfl,hB,hh,_⟩
 ·rw[mA]at hb;cases hb
 obtain⟨a,n',c,e1,_,e2⟩:=nH hb;simp only[aaK,aau]at e1;obtain⟨rfl,_⟩:=e1;subst e2;exact⟨hB,hh.lt⟩
theorem dc.holds.lt{B:Nat}{g:G}{e:dc}(h:e.holds B g): ∀b,e.xy=some b→B≤b∧b<g.w.heap.size∧ ¬g.im b:=by
 intro b hb;cases e with
 |obj b' o=>
  simp only[dc.xy,aau]at hb;subst hb;exact⟨h.1,(ab6.1 h.2.1).1,h.2.2⟩
 |row e k v n xs=>exact⟨(h.1.lt b hb).1,(h.1.lt b hb).2,h.2 b hb⟩
theorem Row.kept{B:Nat}{e:TypeId}{k:Nat}{v:Value}{n:Nat}{xs:List Value}{w w':World}(h:Row B e k v n xs w)(hb: ∀b,uj v=some b→w'.heap[b]? =w.heap[b]?):Row B e k v n xs w':=by
 refine⟨h.1,?_⟩;rcases h.2 with hn|⟨b,off,cap,cur,rfl,hB,hh,qP,r⟩
 ·exact .inl hn
 by_cases hc:cap=0
 ·subst hc;obtain rfl:n=0:=by omega
  exact .inl ⟨rfl,_,rfl⟩
 exact .inr ⟨b,off,cap,cur,rfl,hB,hh.of_eq (hb b (lx hc)),qP,r⟩
theorem dc.holds.kept{B:Nat}{g g':G}{e:dc}(h:e.holds B g)(hb: ∀b,e.xy=some b→g'.w.heap[b]? =g.w.heap[b]? ∧(g'.im b↔g.im b)):e.holds B g':=by
 cases e with
 |obj b o=>exact⟨h.1,(hb b rfl).1.trans h.2.1,fun hi=>h.2.2 ((hb b rfl).2.1 hi)⟩
 |row e k v n xs=>exact⟨h.1.kept fun b xw=>(hb b xw).1,fun b xw hi=>h.2 b xw ((hb b xw).2.1 hi)⟩
structure St(g0 g:G)(L:List dc):Prop where
 below:Below g0.w.heap.size g0.w g.w
 im: ∀b,b<g0.w.heap.size→(g.im b↔g0.im b)
 own: ∀(j:Nat) e,L[j]? =some e→e.holds g0.w.heap.size g
 sep: ∀(j k:Nat) e e',j≠k→L[j]? =some e→L[k]? =some e'→ ∀b,e.xy=some b→e'.xy≠some b
theorem St.start(g:G):St g g []:=⟨Below.refl _ _,fun _ _=>aba,fun _ _ h=>by simp at h,fun _ _ _ _ _ h=>by simp at h⟩
theorem St.p9{g0 g:G}{L:List dc}(h:St g0 g L):bW g0 g:=⟨h.below,h.im⟩
theorem St.le{g0 g:G}{L:List dc}(h:St g0 g L):g0.le g:=h.p9.le
theorem D3{g g':G}{r:Option Nat}(hg:g.w.grownBy g'.w r)(hr: ∀b,r=some b→ ¬g.im b)(uk: ∀b,b<g.w.heap.size→(g'.im b↔g.im b)):g.le g':=
 fun b hb=>⟨(uk b (g.lt b hb)).2 hb,hg.block b (g.lt b hb) fun e=>hr b e.symm hb⟩
theorem St.MK{g0 g g':G}{L:List dc}(hs:St g0 g L){i:Nat}{e e':dc}(hi:L[i]? =some e)(hg:g.w.grownBy g'.w e.xy)(uk: ∀b,b<g.w.heap.size→(g'.im b↔g.im b))
  (he:e'.holds g0.w.heap.size g') (hb: ∀b,e'.xy=some b→e.xy=some b∨g.w.heap.size≤b):St g0 g' (L.set i e')∧g.le g':=by
 have aV:=(hs.own i e hi).lt;have dk:=hs.below.size;refine⟨⟨⟨hg.os.trans hs.below.os,hg.tape.trans hs.below.tape,hg.output.trans hs.below.output,aaC dk hg.size,fun k hk=>?_⟩,fun b xw=>?_,?_,?_⟩,?_⟩
 ·exact(hg.block k (by omega) fun h=>by have:=(aV k h.symm).1;omega).trans (hs.below.block k hk)
 ·exact(uk b (by omega)).trans (hs.im b xw)
 ·intro j x hj;rw[abG]at hj;split at hj
  ·split at hj
   ·simp only[aau]at hj;exact hj▸he
   simp at hj
  rename_i fL;have hx:=hs.own j x hj;refine hx.kept fun b xw=>?_;have h1:=hx.lt b xw;exact⟨hg.block b h1.2.1 fun h=>hs.sep j i x e (fun q=>fL q.symm) hj hi b xw h.symm,uk b h1.2.1⟩
 ·intro j k x y ER hj hk b Be xS;rw[abG]at hj hk;split at hj<;>split at hk
  ·omega
  ·split at hj
   ·simp only[aau]at hj;subst hj;rename_i _ fL _;rcases hb b Be with h|h
    ·exact hs.sep i k e y (by assumption) hi hk b h xS
    have:=((hs.own k y hk).lt b xS).2.1;omega
   simp at hj
  ·split at hk
   ·simp only[aau]at hk;subst hk;rcases hb b xS with h|h
    ·exact hs.sep j i x e (by rename_i fL _ _;exact fun q=>fL q.symm) hj hi b Be h
    have:=((hs.own j x hj).lt b Be).2.1;omega
   simp at hk
  exact hs.sep j k x y ER hj hk b Be xS
 exact D3 hg (fun b h=>(aV b h).2.2) uk
theorem St.add{g0 g g':G}{L:List dc}(hs:St g0 g L){e':dc}(hg:g.w.grownBy g'.w none)(uk: ∀b,b<g.w.heap.size→(g'.im b↔g.im b))
  (he:e'.holds g0.w.heap.size g') (hb: ∀b,e'.xy=some b→g.w.heap.size≤b):St g0 g' (e'::L)∧g.le g':=by
 have dk:=hs.below.size;refine⟨⟨⟨hg.os.trans hs.below.os,hg.tape.trans hs.below.tape,hg.output.trans hs.below.output,aaC dk hg.size,fun k hk=>?_⟩,fun b xw=>?_,?_,?_⟩,?_⟩
 ·exact(hg.block k (by omega) (by simp)).trans (hs.below.block k hk)
 ·exact(uk b (by omega)).trans (hs.im b xw)
 ·intro j x hj;cases j with
  |zero=>simp only[abF,aau]at hj;exact hj▸he
  |succ j=>
   simp only[ab2]at hj;have hx:=hs.own j x hj;exact hx.kept fun b xw=>⟨hg.block b (hx.lt b xw).2.1 (by simp),uk b (hx.lt b xw).2.1⟩
 ·intro j k x y ER hj hk b Be xS;cases j with
  |zero=>
   cases k with
   |zero=>omega
   |succ k=>
    simp only[abF,aau,ab2]at hj hk;subst hj;have:=hb b Be;have:=((hs.own k y hk).lt b xS).2.1;omega
  |succ j=>
   cases k with
   |zero=>
    simp only[abF,aau,ab2]at hj hk;subst hk;have:=hb b xS;have:=((hs.own j x hj).lt b Be).2.1;omega
   |succ k=>
    simp only[ab2]at hj hk;exact hs.sep j k x y (by omega) hj hk b Be xS
 exact D3 hg (by simp) uk
theorem St.call{g0 g g':G}{L:List dc}(hs:St g0 g L)(h:bW g g'):St g0 g' L:=
 ⟨hs.below.trans (h.below.mono hs.below.size),fun b hb=>(h.im b (abp hb hs.below.size)).trans (hs.im b hb),
  fun j e he=>(hs.own j e he).kept fun b hb=>⟨h.below.block b ((hs.own j e he).lt b hb).2.1,h.im b ((hs.own j e he).lt b hb).2.1⟩,hs.sep⟩
def G.dr(g:G):G:=⟨g.w.drew,g.im,g.lt⟩
theorem St.dr{g0 g:G}{L:List dc}(hs:St g0 g L):St g0 g.dr L:=⟨hs.below.drew,hs.im,fun j e he=>(hs.own j e he).kept fun _ _=>⟨rfl,aba⟩,hs.sep⟩
theorem G.a_(g:G):g.le g.dr:=fun _ h=>⟨h,rfl⟩
theorem bW.dr(g:G):bW g g.dr:=⟨(Below.refl _ _).drew,fun _ _=>aba⟩
def G.fz(g:G)(r:Option Nat)(h: ∀b,r=some b→b<g.w.heap.size):G:=⟨g.w,fun b=>g.im b∨r=some b,fun b hb=>hb.elim (g.lt b) (h b)⟩
theorem G.uC(g:G)(r:Option Nat)(h: ∀b,r=some b→b<g.w.heap.size):g.le (g.fz r h):=fun _ hb=>⟨.inl hb,rfl⟩
theorem St.fz{g0 g:G}{L:List dc}(hs:St g0 g L){i:Nat}{e:dc}(hi:L[i]? =some e):
  St g0 (g.fz e.xy fun b hb=>((hs.own i e hi).lt b hb).2.1) (L.eraseIdx i):=by
 have aV:=(hs.own i e hi).lt;have idx: ∀(j:Nat) x,(L.eraseIdx i)[j]? =some x→ ∃j',j'≠i∧L[j']? =some x∧j'=(if j<i then j else j+1):=by
  intro j x hj;rw[acG]at hj;split at hj
  ·rename_i h;exact⟨j,by omega,hj,by rw[if_pos h]⟩
  rename_i h;exact⟨j+1,by omega,hj,by rw[if_neg h]⟩
 refine⟨hs.below,fun b hb=>⟨fun h=>?_,fun h=> .inl ((hs.im b hb).2 h)⟩,?_,?_⟩
 ·rcases h with h|h
  ·exact(hs.im b hb).1 h
  have:=(aV b h).1;omega
 ·intro j x hj;obtain⟨j',fL,Cb,_⟩:=idx j x hj;refine(hs.own j' x Cb).kept fun b hb=>⟨rfl,⟨fun h=>?_,.inl⟩⟩
  rcases h with h|h
  ·exact h
  exact(hs.sep j' i x e fL Cb hi b hb h).elim
 intro j k x y ER hj hk b Be xS;obtain⟨j',_,Cb,e1⟩:=idx j x hj;obtain⟨k',_,MD,e2⟩:=idx k y hk;refine hs.sep j' k' x y ?_ Cb MD b Be xS;rw[e1,e2];split<;>split<;>omega
theorem St.drop{g0 g:G}{L:List dc}(hs:St g0 g L)(i:Nat):St g0 g (L.eraseIdx i):=by
 have idx: ∀(j:Nat) x,(L.eraseIdx i)[j]? =some x→ ∃j',L[j']? =some x∧j'=(if j<i then j else j+1):=by
  intro j x hj;rw[acG]at hj;split at hj
  ·rename_i h;exact⟨j,hj,by rw[if_pos h]⟩
  rename_i h;exact⟨j+1,hj,by rw[if_neg h]⟩
 refine⟨hs.below,hs.im,fun j x hj=>?_,fun j k x y ER hj hk b Be xS=>?_⟩
 ·obtain⟨j',Cb,_⟩:=idx j x hj;exact hs.own j' x Cb
 obtain⟨j',Cb,e1⟩:=idx j x hj;obtain⟨k',MD,e2⟩:=idx k y hk;refine hs.sep j' k' x y ?_ Cb MD b Be xS;rw[e1,e2];split<;>split<;>omega
theorem St.re{g0 g:G}{L L':List dc}(hs:St g0 g L)(is:List Nat)(hn:is.Nodup)(h:is.map (fun i=>L[i]?)=L'.map some):St g0 g L':=by
 have idx: ∀(j:Nat) x,L'[j]? =some x→ ∃i,is[j]? =some i∧L[i]? =some x:=by
  intro j x hj;have:(is.map fun i=>L[i]?)[j]? =some (some x):=by rw[h,abd,hj];rfl
  rw[abd,abk]at this;exact this
 refine⟨hs.below,hs.im,fun j x hj=>?_,fun j k x y ER hj hk b Be xS=>?_⟩
 ·obtain⟨i,_,hi⟩:=idx j x hj;exact hs.own i x hi
 obtain⟨i,hi,hi'⟩:=idx j x hj;obtain⟨i2,hi2,WN⟩:=idx k y hk;refine hs.sep i i2 x y (fun e=>ER ?_) hi' WN b Be xS;subst e;exact(List.getElem?_inj (aaN.1 hi).1 hn).1 (hi.trans hi2.symm)
class El(α:Type) where
 k:Nat
 pos:0<k
 rc:G→List Value→α→Prop
 len: ∀{g cs x},rc g cs x→cs.length=k
 mono: ∀{g g':G} {cs x},g.le g'→rc g cs x→rc g' cs x
 one: ∀{g cs x},rc g cs x→ ∀c∈cs,c.oneCell'=true
def cR{α:Type}[El α](g:G):List Value→List α→Prop
 |cs,[]=>cs=[]
 |cs,x::xs=> ∃c1 c2,cs=c1++c2∧El.rc g c1 x∧cR g c2 xs
theorem cR.mono{α:Type}[El α]{g g':G}(hle:g.le g'): ∀{xs:List α} {cs},cR g cs xs→cR g' cs xs
 |[],_,h=>h
 |_::_,_,⟨c1,c2,e,h1,h2⟩=>⟨c1,c2,e,El.mono hle h1,cR.mono hle h2⟩
theorem cR.len{α:Type}[El α]{g:G}: ∀{xs:List α} {cs},cR g cs xs→cs.length=xs.length*El.k α
 |[],_,h=>by simp[show _=[]from h]
 |_::xs,_,⟨c1,c2,e,h1,h2⟩=>by rw[e,aal,El.len h1,cR.len h2,aaw,abh];omega
theorem cR.one{α:Type}[El α]{g:G}: ∀{xs:List α} {cs},cR g cs xs→ ∀c∈cs,c.oneCell'=true
 |[],_,h,c,hc=>by rw[show _=[]from h]at hc;cases hc
 |_::xs,_,⟨c1,c2,e,h1,h2⟩,c,hc=>by
  rw[e]at hc;rcases aaJ.1 hc with h|h
  ·exact El.one h1 c h
  exact cR.one h2 c h
theorem cR.app{α:Type}[El α]{g:G}{ys:List α}{ds}(hy:cR g ds ys): ∀{xs:List α} {cs},cR g cs xs→cR g (cs++ds) (xs++ys)
 |[],_,h=>by rw[show _=[]from h];exact hy
 |_::_,_,⟨c1,c2,e,h1,h2⟩=>⟨c1,c2++ds,by rw[e,aaG],h1,cR.app hy h2⟩
theorem cR.at{α:Type}[El α]{g:G}: ∀{xs:List α} {cs},cR g cs xs→ ∀{i:Nat} {x},xs[i]? =some x→ ∃ys,El.rc g ys x∧(∀(j:Nat) y,ys[j]? =some y→cs[i*El.k α+j]? =some y)∧ys.length=El.k α
 |[],_,_,i,x,hi=>by simp at hi
 |y::xs,_,⟨c1,c2,e,h1,h2⟩,0,x,hi=>by simp only[abF,aau]at hi;subst hi;refine⟨c1,h1,fun j z hz=>?_,El.len h1⟩;rw[e,abP,abo,abV (aaN.1 hz).1];exact hz
 |y::xs,_,⟨c1,c2,e,h1,h2⟩,i+1,x,hi=>by simp only[ab2]at hi;obtain⟨ys,hr,hc,hl⟩:=cR.at h2 hi;refine⟨ys,hr,fun j z hz=>?_,hl⟩;have:=hc j z hz;rw[e,aby (by rw[El.len h1,abh];omega),El.len h1];rw[←this];congr 1;rw[abh];omega
theorem cR.drop{α:Type}[El α]{g:G}: ∀{xs:List α} {cs},cR g cs xs→ ∀i,cR g (cs.drop (i*El.k α)) (xs.drop i)
 |_,_,h,0=>by simpa using h
 |[],_,h,i+1=>by rw[show _=[]from h];simp[cR]
 |_::xs,_,⟨c1,c2,e,h1,h2⟩,i+1=>by have:=cR.drop h2 i;rw[e,List.drop_append];have hl:=El.len h1;rw[abr (by rw[hl,abh];omega),hl,aa1,ada];rw[show(i+1)*El.k α-El.k α=i*El.k α from by rw[abh];omega];exact this
theorem cR.take{α:Type}[El α]{g:G}: ∀{xs:List α} {cs},cR g cs xs→ ∀i,cR g (cs.take (i*El.k α)) (xs.take i)
 |_,_,h,0=>by simp[cR]
 |[],_,h,i+1=>by rw[show _=[]from h];simp[cR]
 |_::xs,_,⟨c1,c2,e,h1,h2⟩,i+1=>by have:=cR.take h2 i;have hl:=El.len h1;refine⟨c1,c2.take (i*El.k α),?_,h1,this⟩;rw[e,List.take_append,aaD (by rw[hl,abh];omega),hl];rw[show(i+1)*El.k α-El.k α=i*El.k α from by rw[abh];omega]
def Rs{α:Type}[El α](g:G)(v:Value)(xs:List α):Prop:=
 ∃a n c,v= .slice a n c∧n=xs.length∧(n≤c∧c≤maxLen)∧(n=0∨ ∃b o cells,a=some ⟨b,o,none⟩∧g.im b∧cR g cells xs∧ ∀(j:Nat) y,cells[j]? =some y→g.w.cell? ⟨b,o+j,none⟩=some y)
theorem G'{g g':G}(hle:g.le g'){b o:Nat}{y:Value}(hb:g.im b)(h:g.w.cell? ⟨b,o,none⟩=some y):g'.w.cell? ⟨b,o,none⟩=some y:=
 (World.cell?_of_block (a:=⟨b,o,none⟩) (hle b hb).2).trans h
theorem Rs.mono{α:Type}[El α]{g g':G}{v:Value}{xs:List α}(hle:g.le g')(h:Rs g v xs):Rs g' v xs:=by
 obtain⟨a,n,c,e,hn,hc,h⟩:=h;refine⟨a,n,c,e,hn,hc,?_⟩;rcases h with h|⟨b,o,cells,ha,hb,hr,D4⟩
 ·exact .inl h
 exact .inr ⟨b,o,cells,ha,(hle b hb).1,hr.mono hle,fun j y hy=>G' hle hb (D4 j y hy)⟩
theorem Rs.nil{α:Type}[El α](g:G):Rs g (.slice none 0 0) ([]:List α):=⟨none,0,0,rfl,rfl,⟨aaz _,aar _⟩,.inl rfl⟩
theorem Rs.isSlice{α:Type}[El α]{g:G}{v:Value}{xs:List α}(h:Rs g v xs): ∃a c,v= .slice a xs.length c:=by obtain⟨a,n,c,e,rfl,_⟩:=h;exact⟨a,c,e⟩
theorem Rs.ef{α:Type}[El α]{g:G}{v:Value}{xs:List α}(h:Rs g v xs):xs.length≤maxLen:=by obtain⟨a,n,c,e,rfl,hc,_⟩:=h;exact aaC hc.1 hc.2
theorem Rs.mL{α:Type}[El α]{g:G}{a:Option Addr}{n c:Nat}{xs:List α}(h:Rs g (.slice a n c) xs):n=xs.length∧n≤c∧c≤maxLen:=by obtain⟨a,n,c,e,rfl,hc,_⟩:=h;simp only[aaK]at e;obtain⟨_,rfl,rfl⟩:=e;exact⟨rfl,hc⟩
instance:El Int where
 k:=1
 pos:=by omega
 rc _ cs n:=cs=[vI n]
 len h:=by rw[h];rfl
 mono _ h:=h
 one h:=by rw[h];simp[Value.oneCell']
instance:El Bool where
 k:=1
 pos:=by omega
 rc _ cs n:=cs=[.bool n]
 len h:=by rw[h];rfl
 mono _ h:=h
 one h:=by rw[h];simp[Value.oneCell']
instance{α:Type}[El α]:El (List α) where
 k:=1
 pos:=by omega
 rc g cs xs:=∃v,cs=[v]∧Rs g v xs
 len h:=by obtain⟨v,rfl,_⟩:=h;rfl
 mono hle h:=by obtain⟨v,rfl,hr⟩:=h;exact⟨v,rfl,hr.mono hle⟩
 one h:=by obtain⟨v,rfl,hr⟩:=h;obtain⟨a,c,rfl⟩:=hr.isSlice;simp[Value.oneCell']
theorem Row.rs{α:Type}[El α]{B:Nat}{e:TypeId}{v:Value}{n:Nat}{cells:List Value}{g g':G}{xs:List α}(h:Row B e (El.k α) v n cells g.w)(hr:cR g cells xs)(hle:g.le g')
  (hw: ∀b,uj v=some b→g'.im b∧g'.w.heap[b]? =g.w.heap[b]?):Rs g' v xs:=by
 have hl:=hr.len;have hn:n=xs.length:=by have:=h.1;have hp:=El.pos (α:=α);rw[hl]at this;exact(Nat.eq_of_mul_eq_mul_right hp this).symm
 rcases h.2 with⟨h0,a,rfl⟩|⟨b,off,cap,cur,rfl,hB,hh,qP,tG,oR,Tt⟩
 ·exact⟨a,0,0,rfl,by omega,⟨aaz _,aar _⟩,.inl rfl⟩
 by_cases hc:cap=0
 ·exact⟨_,_,_,rfl,hn,⟨qP,tG⟩,.inl (by omega)⟩
 have UW:=hw b (lx hc);refine⟨_,_,_,rfl,hn,⟨qP,tG⟩,.inr ⟨b,off,cells,rfl,UW.1,hr.mono hle,fun j y hy=>?_⟩⟩;have hj:j<cells.length:=(aaN.1 hy).1;have:cur[off+j]? =some y:=by rw[←Tt,abt (by rw[hl]at hj;rw[hn];exact hj),abB,acI]at hy;exact hy
 exact(hh.of_eq UW.2).cell this
variable {g0 g:G} {L:List dc} {K:Value→World→Prop}
def rP(ops:Array Oper)(l:Env)(gu:Option (Nat×Bool)):Option Bool:=
 match gu with
 |none=>some true
 |some (j,want)=>
  match(ops[j]?).bind (·.dst)with
  |none=>none
  |some d=>
   match lk l d with
   |some (.bool b)=>some (b==want)
   |some (.tuple _)=>some false
   |_=>none
theorem qZ{o:Oper}{Ti:Bool}(h:rP ops l o.guard=some Ti)(ha:Fr N ds l a):Region.wanted o (yielded ops a.tmps)=Ti:=by
 unfold rP at h;unfold Region.wanted yielded;cases hg:o.guard with
 |none=>simp only[hg,aau]at h;simp[←h]
 |some p=>
  obtain⟨j,want⟩:=p;simp only[hg]at h;cases hd:(ops[j]?).bind (·.dst)with
  |none=>simp[hd]at h
  |some d=>
   simp only[hd]at h;cases hl:lk l d with
   |none=>simp[hl]at h
   |some v=>
    have hv:=ha.get d v hl;cases v with
    |bool b=>
     simp only[hl,aau]at h;simp only[hd,acA,hv];rw[←h];cases b<;>cases want<;>rfl
    |tuple vs=>
     simp only[hl,aau]at h;simp only[hd,acA,hv];rw[←h];rfl
    |_=>simp[hl]at h
theorem zh{o:Oper}(hg:rP ops l o.guard=some true)(hd:RQ N o.dst=true)
  (h:cQ F P N ds o l w Q (fun v w'=>WL F P N ds ops Q os (pt o.dst v l) w')):WL F P N ds ops Q (o::os) l w:=by
 intro a ha;simp only[wpListIn,qZ hg ha,if_true];exact Oper.wpIn_mono (fun a' w' ⟨v,he,hk⟩=>he▸hk _ (ha.put hd v)) (h a ha)
theorem u0{o:Oper}(hF: ∀f,F.fn f)(hg:rP ops l o.guard=some false)(hd:RQ N o.dst=true)
  (k:WL F P N ds ops Q os (pt o.dst undef l) w):WL F P N ds ops Q (o::os) l w:=by
 intro a ha;simp only[wpListIn,qZ hg ha];exact⟨fun f _=>hF f,k _ (ha.put hd undef)⟩
variable {d:Nat} {op:Op} {ty:TypeId} {pos:String} {af:Array Edge} {gu:Option (Nat×Bool)}
theorem aN(hg:rP ops l gu=some true)(hd:Nat.blt d N=true)(h:cQ F P N ds ⟨some d,op,ty,pos,af,gu⟩ l w Q (fun v w'=>WL F P N ds ops Q os ((d,v)::l) w')):
  WL F P N ds ops Q (⟨some d,op,ty,pos,af,gu⟩::os) l w:=zh (o:=⟨some d,op,ty,pos,af,gu⟩) hg hd h
theorem gw(hg:rP ops l gu=some true)(h:cQ F P N ds ⟨none,op,ty,pos,af,gu⟩ l w Q (fun _ w'=>WL F P N ds ops Q os l w')):
  WL F P N ds ops Q (⟨none,op,ty,pos,af,gu⟩::os) l w:=zh (o:=⟨none,op,ty,pos,af,gu⟩) hg rfl h
theorem wU(w:World)(o:Obj)(r:Option Nat):w.grownBy (w.alloc o) r:=World.grownBy_alloc w o r
def G.al(g:G)(o:Obj):G:=⟨g.w.alloc o,g.im,fun b h=>by have:=g.lt b h;simp;omega⟩
theorem St.al(hs:St g0 g L)(o:Obj):St g0 (g.al o) (.obj g.w.heap.size o::L)∧g.le (g.al o):=
 hs.add (g':=g.al o) (wU _ _ _) (fun _ _=>aba) ⟨hs.below.size,World.alloc_heap_new g.w o,fun h=>by have:=g.lt _ h;omega⟩ (fun b hb=>by simp only[dc.xy,aau]at hb;omega)
theorem adp{T:TypeId}{x:Operand}{v:Value}{cs:List Value}(ho:o.op= .box T x)(hs:St g0 g L)(hx:ev l x=some v)(oR:v.cells=cs.toArray)
  (k: ∀b g',St g0 g' (.obj b (.cells cs.toArray T (0,0))::L)→g.le g'→K (vP b) g'.w):cQ F P N ds o l g.w Q K:=by
 refine bC (w':=(g.al (.cells cs.toArray T)).w) (fun c=>⟨by rw[ho];simp,by rw[ho];simp⟩) (fun a ha=>?_) (k _ _ (hs.al _).1 (hs.al _).2);simp[execOp,ho,ha.ev hx,Instr.box,newVar,newRow,oR];rfl
theorem ik{tb:Tb}(dS:tb.ok P){T:TypeId}{i:TI}{cs:List Value}(ho:o.op= .alloc T)(hs:St g0 g L)(hi:tl tb T=some i)(oR:i.zero.cells=cs.toArray)
  (k: ∀b g',St g0 g' (.obj b (.cells cs.toArray T (0,0))::L)→g.le g'→K (vP b) g'.w):cQ F P N ds o l g.w Q K:=by
 obtain⟨_,inf,h1,_,_,h4⟩:=dS.at hi;refine bC (w':=(g.al (.cells cs.toArray T)).w) (fun c=>⟨by rw[ho];simp,by rw[ho];simp⟩) (fun a ha=>?_) (k _ _ (hs.al _).1 (hs.al _).2);simp[execOp,ho,Instr.alloc,newVar,newRow,zeroValue,typeInfo,h1,h4,oR];rfl
def xh:KD→Bool
 | .struct _=>true
 | .arr _ _=>true
 |_=>false
theorem kF{tb:Tb}(dS:tb.ok P){t:Nat}{i:TI}(hi:tl tb t=some i):(isAgg t).run P w= .ok (xh i.desc) w:=by obtain⟨⟨d,hu,he⟩,_⟩:=dS.at hi;rw[←he];simp only[isAgg,aaE,run_underlying hu,aaH];cases d<;>rfl
def Ad(tb:Tb)(t:Nat)(cs:List Value)(off:Nat):Option Value:=
 match tl tb t with
 |some i=>bif xh i.desc then(bif Nat.ble (off+i.size) cs.length then some (.agg ((cs.drop off).take i.size).toArray)else none)else cs[off]?
 |none=>none
theorem jo{tb:Tb}(dS:tb.ok P){t:Nat}{cs:List Value}{off b o:Nat}{v:Value}(hv:Ad tb t cs off=some v)
  (hc: ∀(j:Nat) y,cs[j]? =some y→w.cell? ⟨b,o+j,none⟩=some y):(loadVar t ⟨b,o+off,none⟩).run P w= .ok v w:=by
 unfold Ad at hv;cases hi:tl tb t with
 |none=>simp[hi]at hv
 |some i=>
  simp only[hi]at hv;obtain⟨_,inf,h1,h2,_⟩:=dS.at hi;simp only[loadVar,aaE,kF dS hi,aaH];cases U5:xh i.desc with
  |true=>
   simp only[U5,cond_true]at hv;cases hle:Nat.ble (off+i.size) cs.length with
   |false=>simp[hle]at hv
   |true=>
    have gZ:off+i.size≤cs.length:=ab7 hle;simp only[hle,cond_true,aau]at hv;subst hv;have:=run_loadCells_list (P:=P) w ⟨b,o+off,none⟩ ((cs.drop off).take i.size) (fun j y hy=>by
     have hj:j<i.size:=by have:=(aaN.1 hy).1;simp at this;omega
     rw[abt hj,abB]at hy;have:=hc (off+j) y hy;simpa [abM,abv]using this)
    rw[aat,aaM,abD (by omega)]at this;simp[sizeOf,typeInfo,h1,h2,this]
  |false=>
   simp only[U5,cond_false]at hv;simp[hc off v hv]
theorem zi{tb:Tb}(dS:tb.ok P){t:Nat}{x:Operand}{cs:List Value}{off b p:Nat}{v:Value}(ho:o.op= .load t x)(hx:ev l x=some (.pointer (some ⟨b,p+off,none⟩)))
  (hc: ∀(j:Nat) y,cs[j]? =some y→w.cell? ⟨b,p+j,none⟩=some y) (hv:Ad tb t cs off=some v) (k:K v w):cQ F P N ds o l w Q K:=by
 refine bC (fun c=>⟨by rw[ho];simp,by rw[ho];simp⟩) (fun a ha=>?_) k;simp[execOp,ho,ha.ev hx,Instr.loadAt,Instr.sureAddr,jo dS hv hc]
theorem lZ{b:Nat}{cs:List Value}{T:TypeId}{fz:Nat×Nat}(h:w.heap[b]? =some (.cells cs.toArray T fz))(j:Nat)(y:Value)(hy:cs[j]? =some y):w.cell? ⟨b,0+j,none⟩=some y:=by simp[World.cell?,h,hy]
theorem cJ{tb:Tb}(dS:tb.ok P)(i:Nat){t:Nat}{x:Operand}{cs:List Value}{off b:Nat}{T:TypeId}{fz:Nat×Nat}{v:Value}(ho:o.op= .load t x)(hs:St g0 g L)
  (hi:L[i]? =some (.obj b (.cells cs.toArray T fz))) (hx:ev l x=some (.pointer (some ⟨b,off,none⟩)))
  (hv:Ad tb t cs off=some v) (k:K v g.w):cQ F P N ds o l g.w Q K:=by
 have hh:=(hs.own i _ hi).2.1;rw[show off=0+off from(abo off).symm]at hx;exact zi dS ho hx (lZ hh) hv k
def EP(g:G)(b o:Nat)(ys:List Value):Prop:=g.im b∧ ∀(j:Nat) y,ys[j]? =some y→g.w.cell? ⟨b,o+j,none⟩=some y
theorem EP.mono{g g':G}{b p:Nat}{ys:List Value}(h:EP g b p ys)(hle:g.le g'):EP g' b p ys:=⟨(hle b h.1).1,fun j y hy=>G' hle h.1 (h.2 j y hy)⟩
theorem cu{tb:Tb}(dS:tb.ok P)(off:Nat){t:Nat}{x:Operand}{ys:List Value}{b p:Nat}{v:Value}(ho:o.op= .load t x)(he:EP g b p ys)
  (hx:ev l x=some (.pointer (some ⟨b,p+off,none⟩))) (hv:Ad tb t ys off=some v) (k:K v g.w):cQ F P N ds o l g.w Q K:=
 zi dS ho hx he.2 hv k
def nY(cs:List Value)(off:Nat)(us:List Value):List Value:=cs.take off++us++cs.drop (off+us.length)
theorem u3{tb:Tb}(dS:tb.ok P){t:Nat}{i:TI}{us cs:List Value}{off b:Nat}{T:TypeId}{v:Value}(hi:tl tb t=some i)(hu:v.cells=us.toArray)(hl:us.length=i.size)
  (h1: ∀u∈us,u.oneCell'=true) (hh:gO w b cs.toArray T) (lN:off+us.length≤cs.length):
  (storeVar t ⟨b,off,none⟩ v).run P w= .ok () (w.setRow b (nY cs off us).toArray):=by
 obtain⟨_,inf,e1,e2,_⟩:=dS.at hi;have dj:=jz (P:=P) b off T us 0 cs.toArray w hh (by simpa using lN) h1;simp only[abj]at dj;simp[storeVar,sizeOf,typeInfo,e1,e2,hu,hl,dj,nY]
theorem nh(w:World)(b:Nat)(cs:Array Value):w.grownBy (w.setRow b cs) (some b):=by refine⟨rfl,rfl,rfl,by simp[World.setRow],fun k _ hk=>?_⟩;simp only[World.setRow,ads];rw[if_neg (fun e=>hk (congrArg some e.symm))]
def G.sr(g:G)(b:Nat)(cs:Array Value):G:=⟨g.w.setRow b cs,g.im,fun x h=>by have:=g.lt x h;simpa [World.setRow]using this⟩
theorem St.sr{i b:Nat}{cs cs':Array Value}{T:TypeId}{fz:Nat×Nat}(hs:St g0 g L)(hi:L[i]? =some (.obj b (.cells cs T fz))):
  St g0 (g.sr b cs') (L.set i (.obj b (.cells cs' T fz)))∧g.le (g.sr b cs'):=
 hs.MK hi (nh _ _ _) (fun _ _=>aba) ⟨(hs.own i _ hi).1,setRow_heap _ _ _ _ _ _ (hs.own i _ hi).2.1,(hs.own i _ hi).2.2⟩ (fun _ xw=> .inl xw)
theorem eT{tb:Tb}(dS:tb.ok P)(i:Nat){t:Nat}{ti:TI}{x y:Operand}{cs us cs':List Value}{off b:Nat}{T:TypeId}{v:Value}(ho:o.op= .store t x y)(hs:St g0 g L)
  (hi:L[i]? =some (.obj b (.cells cs.toArray T (0,0)))) (hx:ev l x=some (.pointer (some ⟨b,off,none⟩))) (hy:ev l y=some v)
  (ht:tl tb t=some ti) (hu:v.cells=us.toArray) (hl:us.length=ti.size) (h1:us.all Value.oneCell'=true) (lN:Nat.ble (off+us.length) cs.length=true) (oR:nY cs off us=cs')
  (k: ∀g',St g0 g' (L.set i (.obj b (.cells cs'.toArray T (0,0))))→g.le g'→K undef g'.w):cQ F P N ds o l g.w Q K:=by
 subst oR;have dj:=hs.sr (cs':=(nY cs off us).toArray) hi;refine uT (w':=(g.sr b (nY cs off us).toArray).w) (fun c=>⟨by rw[ho];simp,by rw[ho];simp⟩) (fun a ha=>?_) (k _ dj.1 dj.2);have:=u3 (P:=P) (w:=g.w) dS ht hu hl (by simpa using h1) (.plain (hs.own i _ hi).2.1) (ab7 lN);simp[execOp,ho,ha.ev hx,ha.ev hy,Instr.storeAt,Instr.sureAddr,this,G.sr]
def dq{α:Type}(xs:List α)(i:Int):Option α:=if i<0 then none else xs[i.toNat]?
theorem np{α:Type}{xs:List α}{i:Int}{x:α}(h:dq xs i=some x):0≤i∧i.toNat<xs.length∧xs[i.toNat]? =some x:=by
 unfold dq at h;split at h
 ·cases h
 exact⟨by omega,(aaN.1 h).1,h⟩
theorem bM{α:Type}{xs:List α}{n:Int}{j:Nat}(h:n=j)(hj:j<xs.length):dq xs n=some xs[j]:=by
 subst h;have: ¬((j:Int)<0):=by omega
 simp[dq,this,hj]
theorem q0{tb:Tb}(dS:tb.ok P){t e:Nat}{i j:TI}{kk:IntKind}{n c:Nat}{x:Int}{b off:Nat}(hi:tl tb t=some i)(hd:i.desc= .slice e)(hj:tl tb e=some j)
  (h0:0≤x) (hn:x.toNat<n):(Instr.indexAt t (.slice (some ⟨b,off,none⟩) n c) (.int kk x)).run P w= .ok (.pointer (some ⟨b,off+x.toNat*j.size,none⟩)) w:=by
 obtain⟨⟨dd,hu,he⟩,_⟩:=dS.at hi;rw[hd]at he;obtain rfl:=KD.of_slice he;obtain⟨_,inf,h1,h2,_⟩:=dS.at hj;have hn':x<(n:Int):=by omega
 simp[Instr.indexAt,asIntOf,run_underlying hu,h0,hn',sizeOf,typeInfo,h1,h2,abM]
theorem dJ{α:Type}[El α]{tb:Tb}(dS:tb.ok P){t e:Nat}{i j:TI}{x ix:Operand}{v:Value}{xs:List α}{kk:IntKind}{n:Int}{y:α}(ho:o.op= .indexAddr t x ix)(hr:Rs g v xs)(hy:dq xs n=some y)
  (hx:ev l x=some v) (Lj:ev l ix=some (.int kk n)) (hi:tl tb t=some i) (hd:i.desc= .slice e) (hj:tl tb e=some j) (hk:j.size=El.k α)
  (k: ∀b p ys,EP g b p ys→El.rc g ys y→K (.pointer (some ⟨b,p,none⟩)) g.w):cQ F P N ds o l g.w Q K:=by
 obtain⟨h0,aV,we⟩:=np hy;obtain⟨ad,m,c,rfl,rfl,YY,h⟩:=hr;rcases h with h|⟨b,p,cells,rfl,hb,hc,D4⟩
 ·omega
 obtain⟨ys,fw,O8,_⟩:=hc.at we;refine bC (fun c=>⟨by rw[ho];simp,by rw[ho];simp⟩) (fun a ha=>?_) (k b (p+n.toNat*El.k α) ys ⟨hb,fun q u hu=>?_⟩ fw)
 ·simp only[execOp,ho,ha.ev hx,ha.ev Lj,aaE,q0 dS hi hd hj h0 aV,aaH,hk];rfl
 rw[abv];exact D4 _ _ (O8 q u hu)
theorem ea{tb:Tb}(dS:tb.ok P){t e:Nat}{i j:TI}{x ix:Operand}{ad:Option Addr}{m c:Nat}{kk:IntKind}{n:Int}{B k0 q:Nat}{xs:List Value}(ho:o.op= .indexAddr t x ix)(hr:Row B e k0 (.slice ad m c) q xs g.w)
  (h0:0≤n) (aV:n.toNat<m) (hx:ev l x=some (.slice ad m c)) (Lj:ev l ix=some (.int kk n)) (hi:tl tb t=some i) (hd:i.desc= .slice e) (hj:tl tb e=some j) (hk:j.size=k0)
  (k: ∀b p,ad=some ⟨b,p,none⟩→K (.pointer (some ⟨b,p+n.toNat*k0,none⟩)) g.w):cQ F P N ds o l g.w Q K:=by
 rcases hr.2 with⟨_,a,hv⟩|⟨b,p,cap,cur,hv,_⟩
 ·simp only[aaK]at hv;omega
 simp only[aaK]at hv;obtain⟨rfl,rfl,rfl⟩:=hv;refine bC (fun c=>⟨by rw[ho];simp,by rw[ho];simp⟩) (fun a ha=>?_) (k b p rfl);simp only[execOp,ho,ha.ev hx,ha.ev Lj,aaE,q0 dS hi hd hj h0 aV,aaH,hk];rfl
theorem Row.cell{B:Nat}{e:TypeId}{k b p m cap n:Nat}{xs:List Value}(h:Row B e k (.slice (some ⟨b,p,none⟩) m cap) n xs w)(j:Nat)(y:Value)(hy:xs[j]? =some y):w.cell? ⟨b,p+j,none⟩=some y:=by
 rcases h.2 with⟨h0,_⟩|⟨b',p',WU,cur,hv,_,hh,_,_,_,ht⟩
 ·have:=h.1;rw[h0,abP]at this;rw[aa' this]at hy;simp at hy
 simp only[aaK,aau,adi,and_true]at hv;obtain⟨⟨rfl,rfl⟩,rfl,rfl⟩:=hv;have:cur[p+j]? =some y:=by
  rw[←ht]at hy;have aV:j<m*k:=by have:=(aaN.1 hy).1;simp at this;omega
  rw[abt aV,abB,acI]at hy;exact hy
 exact hh.cell this
theorem eW{tb:Tb}(dS:tb.ok P)(off:Nat){B:Nat}{e:TypeId}{k0 b p m cap n:Nat}{xs:List Value}{t:Nat}{x:Operand}{v:Value}(ho:o.op= .load t x)(hr:Row B e k0 (.slice (some ⟨b,p,none⟩) m cap) n xs g.w)
  (hx:ev l x=some (.pointer (some ⟨b,p+off,none⟩))) (hv:Ad tb t xs off=some v) (k:K v g.w):cQ F P N ds o l g.w Q K:=
 zi dS ho hx hr.cell hv k
def Src(w:World)(ad:Option Addr)(m k:Nat)(news:List Value):Prop:=
 news.length=m*k∧(m=0∨ ∃b p,ad=some ⟨b,p,none⟩∧ ∀(j:Nat) u,news[j]? =some u→w.cell? ⟨b,p+j,none⟩=some u)
theorem Row.v_{B:Nat}{e:TypeId}{k:Nat}{v:Value}{n:Nat}{xs:List Value}(h:w.ownsRow B e k v n xs):Row B e k v n xs w:=by
 refine⟨h.1,?_⟩;rcases h.2 with⟨rfl,h0⟩|⟨g,cap,cur,rfl,hB,hh,hc,hm,hs,ht⟩
 ·exact .inl ⟨h0,none,rfl⟩
 exact .inr ⟨g,0,cap,cur,rfl,hB,.plain hh,hc,hm,by omega,by simpa using ht⟩
theorem ly(w:World)(r:Option Nat):w.grownBy w r:=⟨rfl,rfl,rfl,aaz _,fun _ _ _=>rfl⟩
theorem Oa{B:Nat}{e:TypeId}{k:Nat}{v:Value}{n:Nat}{xs:List Value}(h:w.ownsRow B e k v n xs)(b:Nat)(hb:uj v=some b):B≤b:=((Row.v_ h).lt b hb).1
theorem zm{tb:Tb}(dS:tb.ok P){t e ty:Nat}{ti ei:TI}{k:Nat}(hi:tl tb t=some ti)(hd:ti.desc= .slice e)(hj:tl tb e=some ei)(hk:ei.size=k)(nv:0<k)(hz:ei.zero.cells.size=k)
  {B n m c:Nat} {v:Value} {xs news:List Value} {ad:Option Addr} (hr:Row B e k v n xs w) (hB:B≤w.heap.size) (iO:Src w ad m k news) (h1: ∀u∈news,u.oneCell'=true) (hb:(n+m)*ei.bytes≤140737488355328) (GM:n+m≤maxLen):
  ∃v' w',(Builtin.append_ #[t,t] ty #[v,.slice ad m c]).run P w= .ok v' w'∧Row B e k v' (n+m) (xs++news) w'∧w.grownBy w' (uj v)∧(∀b,uj v'=some b→uj v=some b∨w.heap.size≤b):=by
 obtain⟨⟨dd,hu,he⟩,_⟩:=dS.at hi;rw[hd]at he;obtain rfl:=KD.of_slice he;obtain⟨_,inf,e1,e2,e3,e4⟩:=dS.at hj;have dk:inf.size=k:=by rw[e2,hk]
 by_cases hm:m=0
 ·subst hm;have Bm:news=[]:=aa' (by simpa using iO.1);subst Bm;refine⟨v,w,?_,by simpa using hr,ly _ _,fun b hb=> .inl hb⟩;have EU:(Builtin.firstCells inf.size 0 (.slice ad 0 c)).run P w= .ok #[] w:=by cases ad<;>simp[Builtin.firstCells,loadCells,loadCellsFrom]
  rcases hr.2 with⟨rfl,a',rfl⟩|⟨b,p,cap,cur,rfl,_,_,qP,_⟩
  ·cases a'<;>simp[Builtin.append_,run_underlying hu,sizeOf,typeInfo,e1,Builtin.lenOf,EU,storeCells]
  simp[Builtin.append_,run_underlying hu,sizeOf,typeInfo,e1,Builtin.lenOf,EU,qP,storeCells]
 obtain⟨hl,h⟩:=iO;obtain⟨b',p',rfl,D4⟩:=h.resolve_left hm;have Bm: ∀j u,news[j]? =some u→w.cell? ((⟨b',p',none⟩:Addr).add j)=some u:=fun j u hu=>by have:=D4 j u hu;simpa [abM]using this
 rcases hr.2 with⟨rfl,a',rfl⟩|⟨b,p,cap,cur,rfl,hBb,hh,qP,tG,oR,ht⟩
 ·have lG:xs=[]:=aa' (by simpa using hr.1);subst lG;cases a' with
  |none=>
   obtain⟨v',w',lz,eF,hg,_⟩:=run_append_own (P:=P) w w.heap.size t ty e inf ei.zero k ei.bytes hu e1 e4 dk e3 hz nv (.slice none 0 0) 0 [] (World.ownsRow_nil _ _ _ _) ⟨b',p',none⟩ m c news hl Bm h1 GM hb (aaz _);have hR:=Row.v_ eF;refine⟨v',w',lz,?_,hg,fun b hb=> .inr (hR.lt b hb).1⟩;refine⟨by simpa using hR.1,?_⟩;rcases hR.2 with hx|⟨b,p,cap,cur,rfl,h1,hx⟩
   ·exact .inl (by simpa using hx)
   exact .inr ⟨b,p,cap,cur,rfl,by omega,by simpa using hx⟩
  |some a'=>
   obtain⟨v',w',lz,eF,hg⟩:=run_append_arg_grows (P:=P) w t ty e inf ei.zero k ei.bytes hu e1 e4 dk e3 hz nv a' 0 0 [] (by simp) (by simp) ⟨b',p',none⟩ m c news hl Bm (by omega) GM hb;have hR:=Row.v_ eF;refine⟨v',w',lz,?_,by rw[mA];exact hg,fun b hb=> .inr (hR.lt b hb).1⟩;refine⟨by simpa using hR.1,?_⟩;rcases hR.2 with hx|⟨b,p,cap,cur,rfl,h1,hx⟩
   ·exact .inl (by simpa using hx)
   exact .inr ⟨b,p,cap,cur,rfl,by omega,by simpa using hx⟩
 have nL:=hr.1;by_cases Bj:n+m≤cap
 ·have pg:cap≠0:=by omega
  have EU:=run_firstCells_some (P:=P) w k m ⟨b',p',none⟩ m c news hl Bm;have lN:p+n*k+0+news.length≤cur.size:=by rw[oR,hl,abj,abv,←abh];exact Nat.add_le_add_left (acB k Bj) p
  have dj:=jz (P:=P) b (p+n*k) e news 0 cur w hh lN h1;simp only[abj]at dj;have LA:(cur.toList.take (p+n*k)++news++cur.toList.drop (p+n*k+news.length)).toArray.size=cur.size:=by simp only[acC,aal,aat,aaM,Array.length_toList];omega
  refine⟨.slice (some ⟨b,p,none⟩) (n+m) cap,w.setRow b (cur.toList.take (p+n*k)++news++cur.toList.drop (p+n*k+news.length)).toArray,?_,⟨?_,.inr ⟨b,p,cap,_,rfl,hBb,hh.set LA,Bj,tG,LA.trans oR,?_⟩⟩,?_,?_⟩
  ·simp[Builtin.append_,run_underlying hu,sizeOf,typeInfo,e1,Builtin.lenOf,Bj,EU,abM,dk,dj]
  ·rw[aal,nL,hl,abh]
  ·have h2:p+n*k+news.length≤cur.toList.length:=by simpa using lN
   have aV:(cur.toList.take (p+n*k)).length=p+n*k:=by rw[aat];omega
   have hdt:(cur.toList.take (p+n*k)).drop p=xs:=by rw[←ht,acH];congr 1;omega
   rw[aaG,adh (by rw[aV];omega),hdt,abh,←hl,←aaG];rw[acY (by rw[aal,nL];exact aaz _)];rw[aaD (by rw[aal,nL];exact aaz _)]
  ·rw[lx pg];exact nh _ _ _
  intro x hx;left;rw[lx pg]at hx⊢;exact hx
 have holds: ∀j u,xs[j]? =some u→w.cell? ((⟨b,p,none⟩:Addr).add j)=some u:=fun j u hu=>by have:=hr.cell j u hu;simpa [abM]using this
 obtain⟨v',w',lz,eF,hg⟩:=run_append_arg_grows (P:=P) w t ty e inf ei.zero k ei.bytes hu e1 e4 dk e3 hz nv ⟨b,p,none⟩ n cap xs nL holds ⟨b',p',none⟩ m c news hl Bm (by omega) GM hb;have hR:=Row.v_ eF;refine⟨v',w',lz,⟨hR.1,?_⟩,⟨hg.os,hg.tape,hg.output,hg.size,fun q hq _=>hg.block q hq (by simp)⟩,fun b hb=> .inr (hR.lt b hb).1⟩;rcases hR.2 with hx|⟨b,p,cap,cur,rfl,h1,hx⟩
 ·exact .inl hx
 exact .inr ⟨b,p,cap,cur,rfl,by omega,hx⟩
theorem Row.form{B:Nat}{e:TypeId}{k:Nat}{v:Value}{n:Nat}{xs:List Value}(h:Row B e k v n xs w): ∃a c,v= .slice a n c:=by
 rcases h.2 with⟨rfl,a,rfl⟩|⟨b,p,cap,cur,rfl,_⟩
 ·exact⟨a,0,rfl⟩
 exact⟨_,_,rfl⟩
theorem ba{tb:Tb}(dS:tb.ok P)(i:Nat){t e:Nat}{ti ei:TI}{k:Nat}{s x:Operand}{n m c:Nat}{v:Value}{xs news:List Value}{ad:Option Addr}
  (ho:o.op= .call {callee:=.builtin .append,args:=#[s,x],argTypes:=#[t,t]}) (hs:St g0 g L) (hL:L[i]? =some (.row e k v n xs)) (hv:ev l s=some v) (hx:ev l x=some (.slice ad m c))
  (hi:tl tb t=some ti) (hd:ti.desc= .slice e) (hj:tl tb e=some ei) (hk:ei.size=k) (nv:0<k) (hz:ei.zero.cells.size=k)
  (iO:Src g.w ad m k news) (h1: ∀u∈news,u.oneCell'=true) (hb:(n+m)*ei.bytes≤140737488355328) (GM:n+m≤maxLen)
  (kk: ∀a' c' g',St g0 g' (L.set i (.row e k (.slice a' (n+m) c') (n+m) (xs++news)))→g.le g'→K (.slice a' (n+m) c') g'.w):cQ F P N ds o l g.w Q K:=by
 have eF:=hs.own i _ hL;obtain⟨v',w',lz,hR,hg,FF⟩:=zm (ty:=o.type) dS hi hd hj hk nv hz eF.1 hs.below.size iO h1 hb GM (c:=c);obtain⟨a',c',rfl⟩:=hR.form;let g':G:=⟨w',g.im,fun b h=>abp (g.lt b h) hg.size⟩
 have dj:=hs.MK (g':=g') (e':=.row e k (.slice a' (n+m) c') (n+m) (xs++news)) hL hg (fun _ _=>aba)
  ⟨hR,fun b hb hi=>by
   rcases FF b hb with h|h
   ·exact eF.2 b h hi
   have:=g.lt b hi;omega⟩ FF
 refine gM ho (w':=w') (fun a ha=>?_) (kk a' c' g' dj.1 dj.2);simp[resolve,invoke,builtin,ha.ev hv,ha.ev hx,lz]
theorem Src.jh{α:Type}[El α]{ad:Option Addr}{m c:Nat}{xs:List α}(h:Rs g (.slice ad m c) xs):m=xs.length∧ ∃news,cR g news xs∧Src g.w ad m (El.k α) news:=by
 obtain⟨a,n,c',e,rfl,_,h⟩:=h;simp only[aaK]at e;obtain⟨rfl,rfl,rfl⟩:=e;refine⟨rfl,?_⟩;rcases h with h|⟨b,p,cells,rfl,hb,hr,hc⟩
 ·have:xs=[]:=aa' h;subst this;exact⟨[],rfl,by simp,.inl rfl⟩
 exact⟨cells,hr,hr.len,.inr ⟨b,p,rfl,hc⟩⟩
theorem Src.dZ{B:Nat}{e:TypeId}{k m c n:Nat}{ad:Option Addr}{xs:List Value}(h:Row B e k (.slice ad m c) n xs w):m=n∧Src w ad m k xs:=by
 rcases h.2 with⟨rfl,a,e1⟩|⟨b,p,cap,cur,e1,_⟩
 ·simp only[aaK]at e1;obtain⟨rfl,rfl,rfl⟩:=e1;exact⟨rfl,by simpa using h.1,.inl rfl⟩
 simp only[aaK]at e1;obtain⟨rfl,rfl,rfl⟩:=e1;exact⟨rfl,h.1,.inr ⟨b,p,rfl,fun j u hu=>h.cell j u hu⟩⟩
theorem Row.nil(B:Nat)(e:TypeId)(k:Nat)(a:Option Addr)(w:World):Row B e k (.slice a 0 0) 0 [] w:=⟨by simp,.inl ⟨rfl,a,rfl⟩⟩
theorem St.eM(hs:St g0 g L)(e:TypeId)(k:Nat)(a:Option Addr):St g0 g (.row e k (.slice a 0 0) 0 []::L):=
 (hs.add (g':=g) (e':=.row e k (.slice a 0 0) 0 []) (ly _ _) (fun _ _=>aba) ⟨Row.nil _ _ _ _ _,fun b hb=>by rw[mA]at hb;cases hb⟩ (fun b hb=>by simp only[dc.xy,mA]at hb;cases hb)).1
theorem Bf(z:Array Value)(n:Nat)(_hz:0<z.size):(madeCells z (n*z.size)).toList=(List.replicate n z.toList).flatten:=by
 have key: ∀(k:Nat) (m:Nat),k=z.size→((List.range k).map (fun i=>z[(m*z.size+i) % z.size]!))=z.toList:=by
  intro k m hk;subst hk;apply abL;intro j;rw[abd];by_cases hj:j<z.size
  ·rw[acT hj];have:(m*z.size+j) % z.size=j:=by rw[Nat.mul_comm,Nat.mul_add_mod];exact Nat.mod_eq_of_lt hj
   rw[abn,this,getElem!_pos z j hj,acI,ac' hj]
  rw[abx (by simpa using hj),abx (by simpa using hj)];rfl
 induction n with
 |zero=>simp[madeCells]
 |succ n ih=>
  rw[abh,Nat.one_mul];simp only[madeCells,ac8,Array.toList_range]at ih⊢;rw[List.range_add,aa3,ih,abw,List.replicate_succ',List.flatten_concat];congr 1;exact key z.size n rfl
theorem cR.replicate{α:Type}[El α]{cs:List Value}{x:α}(h:El.rc g cs x): ∀n,cR g (List.replicate n cs).flatten (List.replicate n x)
 |0=>rfl
 |n+1=>⟨cs,(List.replicate n cs).flatten,by simp[List.replicate_succ],h,cR.replicate h n⟩
theorem uy{tb:Tb}(dS:tb.ok P){t e:Nat}{ti ei:TI}{k:Nat}{x y:Operand}{kl kc:IntKind}{n:Nat}(ho:o.op= .makeSlice t x y)(hs:St g0 g L)
  (hx:ev l x=some (.int kl (n:Int))) (hy:ev l y=some (.int kc (n:Int))) (hi:tl tb t=some ti) (hd:ti.desc= .slice e) (hj:tl tb e=some ei) (hk:ei.size=k) (nv:0<k) (hz:ei.zero.cells.size=k)
  (hb:ei.bytes*n≤281474976710656) (GM:n≤maxLen)
  (kk: ∀b g',St g0 g' (.row e k (.slice (vA b) n n) n (List.replicate n ei.zero.cells.toList).flatten::L)→g.le g'→K (.slice (vA b) n n) g'.w):cQ F P N ds o l g.w Q K:=by
 obtain⟨⟨dd,hu,he⟩,_⟩:=dS.at hi;rw[hd]at he;obtain rfl:=KD.of_slice he;obtain⟨_,inf,e1,e2,e3,e4⟩:=dS.at hj;have dk:inf.size=k:=by rw[e2,hk]
 obtain⟨w',lz,eF,hg⟩:=run_make_full (P:=P) g.w g0.w.heap.size t e inf ei.zero k hu e1 e4 dk kl kc n (by rw[e3];exact hb) GM hs.below.size;have MB:(madeCells ei.zero.cells (n*k)).toList=(List.replicate n ei.zero.cells.toList).flatten:=by rw[←hz];exact Bf _ _ (by omega)
 rw[MB]at eF;let g':G:=⟨w',g.im,fun b h=>abp (g.lt b h) hg.size⟩
 have dj:=hs.add (g':=g') (e':=.row e k (.slice (vA g.w.heap.size) n n) n (List.replicate n ei.zero.cells.toList).flatten) hg (fun _ _=>aba)
  ⟨Row.v_ eF,fun b hb hi=>by obtain⟨a,n',c,e5,_,e6⟩:=nH hb;simp only[aaK,aau]at e5;obtain⟨rfl,_⟩:=e5;have:=g.lt b hi;simp only at e6;omega⟩
  (fun b hb=>by obtain⟨a,n',c,e5,_,e6⟩:=nH (v:=.slice (vA g.w.heap.size) n n) hb;simp only[aaK,aau]at e5;obtain⟨rfl,_⟩:=e5;simp only at e6;omega)
 refine bC (w':=w') (fun c=>⟨by rw[ho];simp,by rw[ho];simp⟩) (fun a ha=>?_) (kk _ g' dj.1 dj.2);simp[execOp,ho,ha.ev hx,ha.ev hy,lz]
theorem iD{tb:Tb}(dS:tb.ok P){t e len:Nat}{ti ei:TI}{k:Nat}{parts:Array (Nat×Operand)}{vs:List (Nat×Value)}{cells:List Value}(ho:o.op= .buildSlice t len parts)(hs:St g0 g L)
  (hp:xv l (parts.toList.map (·.2))=some (vs.map (·.2))) (z':parts.toList.map (·.1)=vs.map (·.1)) (hi:tl tb t=some ti) (hd:ti.desc= .slice e) (hj:tl tb e=some ei) (hk:ei.size=k) (nv:0<k)
  (hlen:len*k≤16777216) (qK:Instr.fill (fun i=>some (i*k,k)) ((Array.range (len*k)).map (ei.zero.cells[· % ei.zero.cells.size]!)) vs=some cells.toArray) (je:cells.length=len*k)
  (kk: ∀b g',St g0 g' (.row e k (.slice (vA b) len len) len cells::L)→g.le g'→K (.slice (vA b) len len) g'.w):cQ F P N ds o l g.w Q K:=by
 obtain⟨⟨dd,hu,he⟩,_⟩:=dS.at hi;rw[hd]at he;obtain rfl:=KD.of_slice he;obtain⟨_,inf,e1,e2,e3,e4⟩:=dS.at hj;have dk:inf.size=k:=by rw[e2,hk]
 have hm:len≤maxLen:=by have:=aaC (Nat.le_mul_of_pos_right len nv) hlen;unfold maxLen;omega
 have hR:Row g0.w.heap.size e k (.slice (vA g.w.heap.size) len len) len cells (g.al (.cells cells.toArray e)).w:=
  ⟨je,.inr ⟨_,0,len,cells.toArray,rfl,hs.below.size,.plain (World.alloc_heap_new g.w _),aaz _,hm,by simpa using je,by simp[←je]⟩⟩
 have dj:=hs.add (g':=g.al (.cells cells.toArray e)) (e':=.row e k (.slice (vA g.w.heap.size) len len) len cells) (wU _ _ _) (fun _ _=>aba)
  ⟨hR,fun b hb hi=>by obtain⟨a,n',c,e5,_,e6⟩:=nH hb;simp only[aaK,aau]at e5;obtain⟨rfl,_⟩:=e5;have:=g.lt b hi;simp only at e6;omega⟩
  (fun b hb=>by obtain⟨a,n',c,e5,_,e6⟩:=nH (v:=.slice (vA g.w.heap.size) len len) hb;simp only[aaK,aau]at e5;obtain⟨rfl,_⟩:=e5;simp only at e6;omega)
 refine bC (w':=(g.al (.cells cells.toArray e)).w) (fun c=>⟨by rw[ho];simp,by rw[ho];simp⟩) (fun a ha=>?_) (kk _ _ dj.1 dj.2);have WV:(parts.map fun(i,x)=>(i,a.eval x)).toList=vs:=by
  have h2:=j9 ha hp;simp only[ac8];rw[abw]at h2;have h3:parts.toList.map (fun p=>(p.1,a.eval p.2))=(parts.toList.map (·.1)).zip (parts.toList.map (fun p=>a.eval p.2)):=by rw[acg]
  have h4:vs=(vs.map (·.1)).zip (vs.map (·.2)):=by rw[acg];simp
  rw[h4,←z',←h2];exact h3
 have hn: ¬(2^24<len*k):=by omega
 have OS:len*k=0→((Array.range (len*k)).map (ei.zero.cells[· % ei.zero.cells.size]!))=#[]:=fun h0=>by rw[h0];simp
 have aak:len*k=0→cells=[]:=fun h0=>aa' (by rw[je,h0]);have Ir:List.map (fun x:Nat×Operand=>(x.fst,a.eval x.snd)) parts.toList=vs:=by rw[←WV];simp
 by_cases h0:len*k=0
 ·rw[OS h0]at qK;have J4:Array.map (fun _:Nat=>(default:Value)) (Array.range 0)=#[]:=by simp
  simp only[execOp,ho];simp[Instr.buildSlice,run_underlying hu,sizeOf,typeInfo,e1,dk,h0,newRow];rw[J4,Ir,qK];simp;rfl
 simp[execOp,ho,Instr.buildSlice,run_underlying hu,sizeOf,typeInfo,e1,e4,dk,h0,hn,newRow,zeroValue];rw[Ir,qK];simp;rfl
theorem Of{tb:Tb}(dS:tb.ok P){t e:Nat}{ti ei:TI}(hi:tl tb t=some ti)(hd:ti.desc= .slice e)(hj:tl tb e=some ei){ad:Option Addr}{n c:Nat}{lo hi':Option Value}{a b:Nat}
  (zY:(match lo with|some v=> ∃k,v= .int k (a:Int)|none=>a=0)) (vk:(match hi' with|some v=> ∃k,v= .int k (b:Int)|none=>b=n)) (h1:a≤b) (h2:b≤c):
  (Instr.sliceAt t (.slice ad n c) lo hi' none).run P w= .ok (.slice (if c=a then ad else ad.map (·.add (a*ei.size))) (b-a) (c-a)) w:=by
 obtain⟨⟨dd,hu,he⟩,_⟩:=dS.at hi;rw[hd]at he;obtain rfl:=KD.of_slice he;obtain⟨_,inf,e1,e2,_⟩:=dS.at hj;have hb1:(0:Int)≤b∧(b:Int)≤c:=by omega
 have ha1:(0:Int)≤a∧(a:Int)≤b:=by omega
 cases lo with
 |none=>
  have zY:a=0:=zY;subst zY;cases hi' with
  |none=>
   have vk:b=n:=vk;subst vk;simp[Instr.sliceAt,run_underlying hu,Instr.slice,Instr.sliceBounds,sizeOf,typeInfo,e1]
  |some v=>
   obtain⟨k,rfl⟩:=vk;simp[Instr.sliceAt,run_underlying hu,Instr.slice,Instr.sliceBounds,Instr.sliceBound,asIntOf,sizeOf,typeInfo,e1,h2]
 |some u=>
  obtain⟨k',rfl⟩:=zY;cases hi' with
  |none=>
   have vk:b=n:=vk;subst vk;simp[Instr.sliceAt,run_underlying hu,Instr.slice,Instr.sliceBounds,Instr.sliceBound,asIntOf,sizeOf,typeInfo,e1,e2,h1]
  |some v=>
   obtain⟨k,rfl⟩:=vk;simp[Instr.sliceAt,run_underlying hu,Instr.slice,Instr.sliceBounds,Instr.sliceBound,asIntOf,sizeOf,typeInfo,e1,e2,h1,h2]
theorem Rs.cut{α:Type}[El α]{ad:Option Addr}{n c a b:Nat}{xs:List α}(h:Rs g (.slice ad n c) xs)(h1:a≤b)(h2:b≤xs.length):
  Rs g (.slice (if c=a then ad else ad.map (·.add (a*El.k α))) (b-a) (c-a)) ((xs.take b).drop a):=by
 obtain⟨ad',n',c',e,rfl,qP,h⟩:=h;simp only[aaK]at e;obtain⟨rfl,rfl,rfl⟩:=e;refine⟨_,_,_,rfl,by simp;omega,⟨by omega,by omega⟩,?_⟩;by_cases Hi:b-a=0
 ·exact .inl Hi
 right;rcases h with h|⟨bb,p,cells,rfl,hb,hr,hc⟩
 ·omega
 have W4: ¬c=a:=by omega
 rw[if_neg W4];refine⟨bb,p+a*El.k α,(cells.take (b*El.k α)).drop (a*El.k α),by simp[abM],hb,(hr.take b).drop a,fun j y hy=>?_⟩;rw[abB]at hy;have aV:=(aaN.1 hy).1;rw[aat]at aV;rw[abt (by omega)]at hy;have:=hc _ _ hy;rw[abv];exact this
theorem iA{tb:Tb}(dS:tb.ok P){t e:Nat}{ti ei:TI}{x:Operand}{lo hi':Option Operand}(ho:o.op= .slice t x lo hi' none)(hi:tl tb t=some ti)(hd:ti.desc= .slice e)(hj:tl tb e=some ei)
  {ad:Option Addr} {n c a b:Nat} (hx:ev l x=some (.slice ad n c)) (zY:(match lo with|some v=> ∃k,ev l v=some (.int k (a:Int))|none=>a=0)) (vk:(match hi' with|some v=> ∃k,ev l v=some (.int k (b:Int))|none=>b=n))
  (h1:a≤b) (h2:b≤c) (k:K (.slice (if c=a then ad else ad.map (·.add (a*ei.size))) (b-a) (c-a)) w):cQ F P N ds o l w Q K:=by
 refine bC (fun c=>⟨by rw[ho];simp,by rw[ho];simp⟩) (fun ac ha=>?_) k;have hr:=Of (P:=P) (w:=w) dS hi hd hj (ad:=ad) (n:=n) (c:=c) (lo:=lo.map ac.eval) (hi':=hi'.map ac.eval) (a:=a) (b:=b)
  (by cases lo with
   |none=>exact zY
   |some v=>obtain⟨k,hk⟩:=zY;exact⟨k,ha.ev hk⟩)
  (by cases hi' with
   |none=>exact vk
   |some v=>obtain⟨k,hk⟩:=vk;exact⟨k,ha.ev hk⟩) h1 h2
 simp[execOp,ho,ha.ev hx,hr]
theorem Row.cutFrom{B:Nat}{e:TypeId}{k n c a:Nat}{ad:Option Addr}{xs:List Value}(h:Row B e k (.slice ad n c) n xs w)(h1:a≤n):
  Row B e k (.slice (if c=a then ad else ad.map (·.add (a*k))) (n-a) (c-a)) (n-a) (xs.drop (a*k)) w:=by
 refine⟨by rw[aaM,h.1,Nat.sub_mul],?_⟩;rcases h.2 with⟨rfl,a',e1⟩|⟨b,p,cap,cur,e1,hB,hh,qP,tG,oR,ht⟩
 ·simp only[aaK]at e1;obtain⟨rfl,_,rfl⟩:=e1;obtain rfl:a=0:=by omega
  exact .inl ⟨rfl,ad,by simp⟩
 simp only[aaK]at e1;obtain⟨rfl,_,rfl⟩:=e1;by_cases W4:c=a
 ·exact .inl ⟨by omega,_,by rw[show n-a=0 from by omega,show c-a=0 from by omega]⟩
 rw[if_neg W4];refine .inr ⟨b,p+a*k,c-a,cur,by simp[abM],hB,hh,by omega,by omega,?_,?_⟩
 ·rw[oR,abv,←abh];congr 2;omega
 rw[←ht,acH,aca,Nat.sub_mul]
theorem Row.store{B:Nat}{e:TypeId}{k b p m cap n:Nat}{xs us:List Value}{off:Nat}(h:Row B e k (.slice (some ⟨b,p,none⟩) m cap) n xs w)(lN:off+us.length≤xs.length)(h0:0<us.length):
  ∃cur W5:List Value,gO w b cur.toArray e∧p+off+us.length≤cur.length∧Row B e k (.slice (some ⟨b,p,none⟩) m cap) n (nY xs off us) (w.setRow b (nY cur (p+off) us).toArray)∧cap≠0∧cur=W5:=by
 rcases h.2 with⟨h0',_⟩|⟨b',p',WU,cur,hv,hB,hh,qP,tG,oR,ht⟩
 ·have:=h.1;rw[h0',abP]at this;omega
 simp only[aaK,aau,adi,and_true]at hv;obtain⟨⟨rfl,rfl⟩,rfl,rfl⟩:=hv;have hl:cur.toList.length=p+cap*k:=by simpa using oR
 have nL:=h.1;have YY:m*k≤cap*k:=acB k qP;have tp:cap≠0:=by intro h;subst h;simp at YY;omega
 have LA:(nY cur.toList (p+off) us).toArray.size=cur.size:=by simp only[nY,acC,aal,aat,aaM];omega
 refine⟨cur.toList,cur.toList,by simpa using hh,by omega,⟨?_,.inr ⟨b,p,cap,_,rfl,hB,hh.set LA,qP,tG,LA.trans oR,?_⟩⟩,tp,rfl⟩
 ·simp only[nY,aal,aat,aaM];omega
 apply abL;intro j;rw[←ht];simp only[nY];by_cases hj:j<m*k
 ·rw[abt hj,abB];by_cases h1:j<off
  ·rw[aaG,abV (by rw[aat];omega),abt (by omega),
    aaG,abV (by rw[aat,aat,aaM];omega),abt h1,abt hj,abB]
  by_cases h2:j<off+us.length
  ·rw[aaG,aby (by rw[aat];omega),abV (by rw[aat];omega),
    aaG,aby (by rw[aat,aat,aaM];omega),abV (by rw[aat,aat,aaM];omega)]
   congr 1;rw[aat,aat,aat,aaM];omega
  rw[aby (by rw[aal,aat];omega),abB,
   aby (by rw[aal,aat,aat,aaM];omega),abB]
  simp only[aal,aat,aaM];rw[abt (by omega),abB];congr 1;omega
 rw[abx (by rw[aat];omega),abx (by simp only[aal,aat,aaM];omega)]
theorem iC{tb:Tb}(dS:tb.ok P)(i:Nat)(off:Nat){t:Nat}{ti:TI}{x y:Operand}{e:TypeId}{k b p m cap n:Nat}{xs us xs':List Value}{v:Value}(ho:o.op= .store t x y)(hs:St g0 g L)
  (hi:L[i]? =some (.row e k (.slice (some ⟨b,p,none⟩) m cap) n xs)) (hx:ev l x=some (.pointer (some ⟨b,p+off,none⟩))) (hy:ev l y=some v)
  (ht:tl tb t=some ti) (hu:v.cells=us.toArray) (hl:us.length=ti.size) (h1:us.all Value.oneCell'=true) (h0:0<us.length) (lN:off+us.length≤xs.length) (oR:nY xs off us=xs')
  (kk: ∀g',St g0 g' (L.set i (.row e k (.slice (some ⟨b,p,none⟩) m cap) n xs'))→g.le g'→K undef g'.w):cQ F P N ds o l g.w Q K:=by
 subst oR;have eF:=hs.own i _ hi;obtain⟨cur,_,hh,Lc,hR,tp,_⟩:=eF.1.store lN h0;have dj:=hs.MK (g':=g.sr b (nY cur (p+off) us).toArray) (e':=.row e k (.slice (some ⟨b,p,none⟩) m cap) n (nY xs off us)) hi
  (by simp only[dc.xy,lx tp];exact nh _ _ _) (fun _ _=>aba) ⟨hR,eF.2⟩ (fun b' xw=> .inl xw)
 refine uT (w':=(g.sr b (nY cur (p+off) us).toArray).w) (fun c=>⟨by rw[ho];simp,by rw[ho];simp⟩) (fun a ha=>?_) (kk _ dj.1 dj.2);have:=u3 (P:=P) (w:=g.w) dS ht hu hl (by simpa using h1) hh Lc;simp[execOp,ho,ha.ev hx,ha.ev hy,Instr.storeAt,Instr.sureAddr,this,G.sr]
def cS(P:Program)(f:FuncId):Prop:=(P.funcs[f]?).map (fun fn=>(fn.name== "runtime.NumGoroutine",fn.body.isNone))=some (false,false)
theorem jA{f:FuncId}(h:cS P f)(args:Array Value):(callFunc f args).run P w= .ok (.enter f args) w:=by
 obtain⟨fn,hf,e⟩:=abk.1 h;simp only[aaB]at e;have h1:fn.name≠ "runtime.NumGoroutine":=by simpa using e.1
 have h2:fn.body≠none:=by intro h;rw[h]at e;simp at e
 simp[callFunc,hf,h1,h2]
theorem qT{f:FuncId}(hc:cS P f)(hF: ∀f,F.fn f)(y_:F.depth=none){x:Operand}{args:Array Operand}{ts:Array TypeId}{first captured:Array Value}{vs aa:List Value}
  (ho:o.op= .call {callee:=.value x,args,argTypes:=ts}) (hx:ev l x=some (.func (.func f) first captured)) (ha:xv l args.toList=some vs) (has:first.toList++vs++captured.toList=aa)
  (h:CallsIn F 0 P f aa.toArray w fun e w'=> ∃v,e= .returned v∧K v w'):cQ F P N ds o l w Q K:=by
 intro a Jd;have WK:first++vs.toArray++captured=aa.toArray:=by rw[←has];apply abJ;simp
 rw[←WK]at h;unfold Oper.wpIn;refine⟨fun f _=>hF f,?_⟩;have uX:args.map a.eval=vs.toArray:=by apply abJ;simpa using j9 Jd ha
 rw[abR _ _ _ (fun c e=>by rw[ho]at e;cases e)];have lz:(execOp a.eval o).run P w= .ok (.enter f (first++vs.toArray++captured)) w:=by simp only[execOp,ho,aaE,resolve,Jd.ev hx,Deferred.ofValue,aa5,aaH,invoke,uX];exact jA hc _
 rw[lz];refine⟨fun h=>(by rw[y_]at h;cases h),?_⟩;refine ab0 h fun e w' ⟨v,he,hk⟩=>?_;subst he;exact⟨v,rfl,hk⟩
end Go.K
namespace Go.K
open Go Go.RowKit
structure Fact where
 p:Value→G→Prop
 mono: ∀v g g',bW g g'→p v g→p v g'
def Fact.eq(x:Value):Fact:=⟨fun v _=>v=x,fun _ _ _ _ h=>h⟩
def Fact.any:Fact:=⟨fun _ _=>True,fun _ _ _ _ h=>h⟩
def Fact.rs{α:Type}[El α](xs:List α):Fact:=⟨fun v g=>Rs g v xs,fun _ _ _ hf h=>h.mono hf.le⟩
def Fact.ep(c:Nat→Nat→G→Prop)(hc: ∀b p g g',bW g g'→c b p g→c b p g'):Fact:=
 ⟨fun v g=> ∃b p,v= .pointer (some ⟨b,p,none⟩)∧c b p g,fun _ _ _ hf ⟨b,p,e,h⟩=>⟨b,p,e,hc _ _ _ _ hf h⟩⟩
def iT(φs:List Fact)(i:Nat):Fact:=φs.getD i Fact.any
def uU(o:Oper):List Nat:=(o.after.toList.filter (Region.binds .any)).map (·.on)
def Hk(o:Oper):List Nat:=o.op.operands.toList.filterMap fun| .tmp t=>some t|_=>none
def gC(ops:Array Oper)(j:Nat):Option Nat:=(ops[j]?).bind (·.dst)
def jn(ops:Array Oper)(o:Oper):List (Nat×Nat):=
 (uU o).filterMap fun j=>
  match gC ops j with
  |some d=>bif (Hk o).contains d||(match o.guard with|some (g,_)=>g==j|none=>false)then some (j,d)else none
  |none=>none
def QA(φs:List Fact)(g:G):List (Nat×Nat)→Env→(Env→Prop)→Prop
 |[],l,k=>k l
 |(j,d)::r,l,k=> ∀v,(iT φs j).p v g→QA φs g r ((d,v)::l) k
def iZ(p:Nat→Oper→Prop):Nat→List Oper→Prop
 |_,[]=>True
 |i,o::os=>p i o∧iZ p (i+1) os
theorem iZ.go{p:Nat→Oper→Prop}: ∀{l:List Oper} {i0:Nat},iZ p i0 l→ ∀(j:Nat) o,l[j]? =some o→p (i0+j) o
 |[],_,_,j,o,h=>by simp at h
 |x::l,i0,hs,0,o,h=>by cases h;exact hs.1
 |x::l,i0,hs,j+1,o,h=>by rw[show i0+(j+1)=i0+1+j from by omega];exact iZ.go hs.2 j o (by simpa using h)
theorem iZ.at{p:Nat→Oper→Prop}{ops:Array Oper}{m i:Nat}{o:Oper}(h:iZ p 0 (ops.toList.take m))(uk:i<m)(ho:ops[i]? =some o):p i o:=by have:=h.go i o (by rw[abt uk];simpa using ho);rwa [abo]at this
variable (F:Fence) (P:Program) (N:Nat) (ds:List Deferred) (ops:Array Oper) (Q:Exit→Act→World→Prop) (φs:List Fact) (l0:Env) (gd:G)
def Lb(i:Nat)(o:Oper):Prop:=
 ∀g',bW gd g'→QA φs g' (jn ops o) l0 fun env=>
  match rP ops env o.guard with
  |some true=>cQ F P N ds o env g'.w Q fun v w'=> ∃ez,ez.w=w'∧bW g' ez∧(iT φs i).p v ez
  |some false=>(iT φs i).p undef g'
  |none=>False
def mM(i:Nat)(os:List Oper):Prop:=iZ (Lb F P N ds ops Q φs l0 gd) i os
def vY(m:Nat):Bool:=
 (List.range ops.size).all (fun i=>match ops[i]? with|some o=>(uU o).all (fun j=>Nat.blt j i)|none=>true)&&
 (List.range ops.size).all (fun j=>Nat.blt j m||(List.range j).all (fun k=>(List.range (j+1)).any (fun i=>Nat.blt k i&&(match ops[i]? with|some o=>(uU o).contains k|none=>false))))&&
 (List.range m).all (fun i=>match gC ops i with
  |some d=>Nat.blt d N&&(lk l0 d).isNone&&(List.range m).all (fun j=>j==i||(match gC ops j with|some e=>e !=d|none=>false))
  |none=>false)&&Nat.ble m ops.size
def jb(m:Nat):Bool:=
 (List.range ops.size).all (fun i=>match ops[i]? with|some o=>(uU o).all (fun j=>Nat.blt j i)|none=>true)&&
 (List.range ops.size).all (fun j=>Nat.blt j m||(List.range j).all (fun k=>(List.range (j+1)).any (fun i=>Nat.blt k i&&(match ops[i]? with|some o=>(uU o).contains k|none=>false))))&&
 (List.range m).all (fun i=>match gC ops i with
  |some d=>Nat.blt d N&&(lk l0 d).isNone&&(List.range m).all (fun j=>j==i||(match gC ops j with|some e=>e !=d|none=>true))
  |none=>true)&&Nat.ble m ops.size
variable {F P N ds ops Q φs l0 gd}
theorem Hl{o:Oper}{j:Nat}:j∈uU o↔ ∃e∈o.after,Region.binds .any e=true∧e.on=j:=by
 unfold uU;rw[aaU];constructor
 ·rintro⟨e,he,rfl⟩;rw[ab4]at he;exact⟨e,by simpa using he.1,he.2,rfl⟩
 rintro⟨e,he,hb,rfl⟩;exact⟨e,ab4.2 ⟨by simpa using he,hb⟩,rfl⟩
theorem nr{j:Nat}{listed:Array Bool}:j∈Region.ready .any ops listed↔listed.getD j true=false∧ ∃o,ops[j]? =some o∧ ∀k∈uU o,listed.getD k false=true:=by
 rw[mem_ready];constructor
 ·rintro⟨h0,o,ho,h⟩;refine⟨h0,o,ho,fun k hk=>?_⟩;obtain⟨e,he,hb,rfl⟩:=Hl.1 hk;exact h e he hb
 rintro⟨h0,o,ho,h⟩;exact⟨h0,o,ho,fun e he hb=>h _ (Hl.2 ⟨e,he,hb,rfl⟩)⟩
theorem getD_lt{listed:Array Bool}{j:Nat}(h:j<listed.size)(a b:Bool):listed.getD j a=listed.getD j b:=by simp[h]
theorem Ed(h1: ∀i o,ops[i]? =some o→ ∀j∈uU o,j<i): ∀(fuel i:Nat) (listed:Array Bool) (a:Act) (w:World),listed.size=ops.size→i≤ops.size→(∀j o,i≤j→ops[j]? =some o→ ∀k,k<j→ ∃i' o',k<i'∧i'≤j∧ops[i']? =some o'∧k∈uU o')→
  (∀j,j<ops.size→(listed.getD j false=true↔j<i))→ops.size-i≤fuel→wpListIn F 0 P ops Q (ops.toList.drop i) a w→wpAnyIn F 0 P .any ops Q fuel listed a w:=by
 intro fuel
 induction fuel with
 |zero=>
  intro i listed a w dk hi _ hl hf h;have FT:i=ops.size:=by omega
  subst FT;have hr:Region.ready .any ops listed=[]:=by apply List.eq_nil_iff_forall_not_mem.2;intro j hj;obtain⟨h0,o,ho,_⟩:=nr.1 hj;have aV:j<ops.size:=(ab6.1 ho).1;rw[getD_lt (dk▸aV) true false]at h0;rw[(hl j aV).2 aV]at h0;cases h0
  rw[abr (by simp)]at h;exact⟨hr,h⟩
 |succ fuel ih=>
  intro i listed a w dk hi ht hl hf h;by_cases FT:i=ops.size
  ·subst FT;have hr:Region.ready .any ops listed=[]:=by apply List.eq_nil_iff_forall_not_mem.2;intro j hj;obtain⟨h0,o,ho,_⟩:=nr.1 hj;have aV:j<ops.size:=(ab6.1 ho).1;rw[getD_lt (dk▸aV) true false]at h0;rw[(hl j aV).2 aV]at h0;cases h0
   rw[abr (by simp)]at h;exact⟨fun _=>h,by rw[hr];simp⟩
  have aV:i<ops.size:=by omega
  have ho:ops[i]? =some ops[i]:=ac' aV;have zo:i∈Region.ready .any ops listed:=by
   rw[nr];refine⟨?_,_,ho,fun k hk=>?_⟩
   ·rw[getD_lt (dk▸aV) true false];cases hc:listed.getD i false with
    |false=>rfl
    |true=>have:=(hl i aV).1 hc;omega
   have:=h1 i _ ho k hk;exact(hl k (by omega)).2 this
  refine⟨fun h0=>(by rw[h0]at zo;cases zo),fun j hj=>?_⟩;obtain⟨h0,o,Lz,dW⟩:=nr.1 hj;have TF:j<ops.size:=(ab6.1 Lz).1;rw[getD_lt (dk▸TF) true false]at h0;have Tk:i≤j:=by
   rcases abc j i with h|h
   ·rw[(hl j TF).2 h]at h0;cases h0
   exact h
  have hje:j=i:=by
   rcases abc i j with h|h
   ·obtain⟨i',o2,h5,h6,h7,h8⟩:=ht j o Tk Lz (j-1) (by omega);obtain rfl:i'=j:=by omega
    rw[Lz]at h7;obtain rfl:=aax h7;have:=(hl (i'-1) (by omega)).1 (dW _ h8);omega
   omega
  subst hje;have hd:ops.toList.drop j=ops[j]::ops.toList.drop (j+1):=by rw[aa7 (by simpa using aV)];simp
  rw[hd]at h;have wK: ∀a' w',wpListIn F 0 P ops Q (ops.toList.drop (j+1)) a' w'→wpAnyIn F 0 P .any ops Q fuel (listed.setIfInBounds j true) a' w':=by
   intro a' w' h';refine ih (j+1) _ a' w' (by simpa using dk) (by omega) (fun j' o' Cb=>ht j' o' (by omega)) (fun k hk=>?_) (by omega) h';by_cases U_:k=j
   ·subst U_;simp[dk,aV]
   have:(listed.setIfInBounds j true).getD k false=listed.getD k false:=by simp only[acX];rw[adg (fun e=>U_ e.symm)]
   rw[this,hl k hk];omega
  unfold wpOpIn;rw[ho];simp only;simp only[wpListIn]at h;split
  ·rename_i hw;rw[if_pos hw]at h;exact Oper.wpIn_mono wK h
  rename_i hw;rw[if_neg hw]at h;exact⟨h.1,wK _ _ h.2⟩
theorem LC{g:G}{a:Act}: ∀(js:List (Nat×Nat)) {l:Env} {k:Env→Prop},QA φs g js l k→Fr N ds l a→(∀p∈js,∃v,a.tmps[p.2]? =some v∧(iT φs p.1).p v g)→ ∃env,k env∧Fr N ds env a
 |[],l,k,h,ha,_=>⟨l,h,ha⟩
 |(j,d)::r,l,k,h,ha,hp=>by
  obtain⟨v,hv,hf⟩:=hp (j,d) (by simp);refine LC r (h v hf) ⟨ha.defers,ha.size,fun t u hu=>?_⟩ (fun p nQ=>hp p (by simp[nQ]));by_cases e:d=t
  ·subst e;rw[dz]at hu;rw[←hu];exact hv
  rw[cG _ _ e]at hu;exact ha.get t u hu
theorem DV{m:Nat}(h:vY N ops l0 m=true):jb N ops l0 m=true:=by
 simp only[vY,jb,aaA,aa2,aa9]at h⊢;refine⟨⟨h.1.1,fun i hi=>?_⟩,h.2⟩;have:=h.1.2 i hi;cases hd:gC ops i with
 |none=>rfl
 |some d=>
  simp only[hd,aaA,aa2,aa9,abz]at this⊢;refine⟨this.1,fun j hj=>(this.2 j hj).imp id fun h=>?_⟩;cases he:gC ops j with
  |none=>rfl
  |some e=>simpa [he]using h
theorem Ld{m:Nat}(kQ:jb N ops l0 m=true): ∀i o,ops[i]? =some o→ ∀j∈uU o,j<i:=by simp only[jb,aaA,aa2,aa9]at kQ;intro i o ho j hj;have:=kQ.1.1.1 i (ab6.1 ho).1;rw[ho]at this;simpa [abQ]using aa2.1 this j hj
theorem gH{o:Oper}{p:Nat×Nat}(hp:p∈jn ops o):p.1∈uU o∧gC ops p.1=some p.2:=by
 unfold jn at hp;obtain⟨j,hj,h⟩:=List.mem_filterMap.1 hp;cases hd:gC ops j with
 |none=>simp[hd]at h
 |some d=>
  simp only[hd]at h;generalize((Hk o).contains d||_)=c at h;cases c with
  |true=>cases h;exact⟨hj,hd⟩
  |false=>cases h
def sC(L:Nat→Bool)(i:Nat):Nat→Bool:=fun j=>if j=i then true else L j
def Cq(ρ:Nat→Value)(i:Nat)(v:Value):Nat→Value:=fun j=>if j=i then v else ρ j
theorem uW{L:Nat→Bool}{i:Nat}:sC L i i=true:=if_pos rfl
theorem FU{L:Nat→Bool}{i j:Nat}(h:j≠i):sC L i j=L j:=if_neg h
theorem y9{p:Nat→Value→Prop}{L:Nat→Bool}{ρ:Nat→Value}{i:Nat}{v:Value}(hi:p i v)(h: ∀j,j≠i→L j=true→p j (ρ j)): ∀j,sC L i j=true→p j (Cq ρ i v j):=fun j hj=>by
 unfold sC at hj;unfold Cq;by_cases e:j=i
 ·subst e;simpa using hi
 rw[if_neg e]at hj⊢;exact h j e hj
theorem zl{L:Nat→Bool}{ρ:Nat→Value}{i:Nat}{v:Value}{g':G}(hi:(iT φs i).p v g')(h: ∀j,j≠i→L j=true→(iT φs j).p (ρ j) g'): ∀j,sC L i j=true→(iT φs j).p (Cq ρ i v j) g':=y9 (p:=fun j v=>(iT φs j).p v g') hi h
def TB(ops:Array Oper)(L:Nat→Bool)(ρ:Nat→Value)(a:Act):Prop:=∀j d,L j=true→gC ops j=some d→a.tmps[d]? =some (ρ j)
theorem Bg{g':G}{a:Act}{L:Nat→Bool}{ρ:Nat→Value}{js:List (Nat×Nat)}{k:Env→Prop}(h:QA φs g' js l0 k)(ha:Fr N ds l0 a)(mN:TB ops L ρ a)(hp: ∀p∈js,L p.1=true∧gC ops p.1=some p.2∧(iT φs p.1).p (ρ p.1) g'): ∃env,k env∧Fr N ds env a:=
 LC js h ha fun p h=>let⟨a1,a2,a3⟩:=hp p h;⟨_,mN _ _ a1 a2,a3⟩
theorem uV{m:Nat}{outs:List (Nat×Nat)}(h:outs.all (fun p=>Nat.blt p.1 m&&(gC ops p.1==some p.2))=true){p:Nat×Nat}(hp:p∈outs):p.1<m∧gC ops p.1=some p.2:=by have:=aa2.1 h p hp;simp only[aaA,beq_iff_eq]at this;exact⟨by simpa [abQ]using this.1,this.2⟩
theorem least{p:Nat→Prop}(h: ∃j,p j): ∃j,p j∧ ∀k,k<j→ ¬p k:=
 acJ fun hn=>let⟨j,hj⟩:=h;Nat.strongRecOn (motive:=fun j=> ¬p j) j (fun j ih hj=>hn ⟨j,hj,ih⟩) hj
theorem xT{id:Nat}{g:G}(hF: ∀f,F.fn f)(hm:P.follows .mixedOrders=true)(m:Nat)(kQ:jb N ops l0 m=true)
  (I:(Nat→Bool)→(Nat→Value)→G→Prop) (hI:I (fun _=>false) (fun _=>undef) g.dr)
  (Bb: ∀(L:Nat→Bool) ρ g' i o a,I L ρ g'→i<m→ops[i]? =some o→L i=false→(∀e∈uU o,L e=true)→(∀k o,L k=true→ops[k]? =some o→ ∀e∈uU o,L e=true)→Fr N ds l0 a→TB ops L ρ a→
   ∃(env:Env) (E:Value→G→Prop) (E0:Prop),Fr N ds env a∧(match rP ops env o.guard with
    |some true=>cQ F P N ds o env g'.w Q fun v w'=> ∃ez,ez.w=w'∧E v ez
    |some false=>E0
    |none=>False)∧(∀v ez,E v ez→I (sC L i) (Cq ρ i v) ez)∧(E0→I (sC L i) (Cq ρ i undef) g'))
  (lL: ∀L ρ g' a,I L ρ g'→(∀j,j<m→L j=true)→Fr N ds l0 a→TB ops L ρ a→ ∃env,WL F P N ds ops Q (ops.toList.drop m) env g'.w∧Fr N ds env a):W F P N ds (.region id ops true) Q l0 g.w:=by
 intro a ha;have k1:=Ld kQ;simp only[jb,aaA,aa2,aa9]at kQ;obtain⟨⟨⟨-,c2⟩,c3⟩,c4⟩:=kQ;have c4:m≤ops.size:=ab7 c4;have k2: ∀j o,m≤j→ops[j]? =some o→ ∀k,k<j→ ∃i' o',k<i'∧i'≤j∧ops[i']? =some o'∧k∈uU o':=by
  intro j o hj ho k hk;have:=c2 j (ab6.1 ho).1;simp only[abz]at this;have:=(aa2.1 (this.resolve_left fun h=>absurd (show j<m by simpa [abQ]using h) (by omega))) k (aa9.2 hk);obtain⟨i',h1,h2⟩:=abW.1 this;simp only[aaA]at h2;have h3:=aa9.1 h1;cases Lz:ops[i']? with
  |none=>rw[Lz]at h2;simp at h2
  |some o'=>
   rw[Lz]at h2;exact⟨i',o',by simpa [abQ]using h2.1,by omega,Lz,by simpa using h2.2⟩
 have k3: ∀i,i<m→ ∀d,gC ops i=some d→d<N∧lk l0 d=none∧ ∀j,j<m→j≠i→gC ops j≠some d:=by
  intro i hi d hd;have:=c3 i hi;simp only[hd,aaA,aa2,aa9,abz]at this;refine⟨by simpa [abQ]using this.1.1,by simpa using this.1.2,fun j hj fL he=>?_⟩;rcases this.2 j hj with h|h
  ·exact absurd (by simpa using h) fL
  simp[he]at h
 refine wpIn_region_any hm ?_;have key: ∀(fuel:Nat) (listed:Array Bool) (a:Act) (ρ:Nat→Value) (g':G),listed.size=ops.size→I (fun j=>listed.getD j false) ρ g'→Fr N ds l0 a→TB ops (fun j=>listed.getD j false) ρ a→
   (∀j,listed.getD j false=true→j<m)→(∀k o,listed.getD k false=true→ops[k]? =some o→ ∀e∈uU o,listed.getD e false=true)→
   (∀S:List Nat,S.Nodup→(∀j∈S,j<ops.size∧listed.getD j false=false)→S.length≤fuel)→wpAnyIn F 0 P .any ops Q fuel listed a g'.w:=by
  intro fuel
  induction fuel with
  |zero=>
   intro listed a ρ g' dk hI ha mN aV je Hm;have dW: ∀j,j<ops.size→listed.getD j false=true:=fun j hj=>by
    cases h:listed.getD j false with
    |true=>rfl
    |false=>exact absurd (Hm [j] (by simp) fun x hx=>aaL.1 hx▸⟨hj,h⟩) (by simp)
   have UJ:m=ops.size:=by
    rcases abc m ops.size with h|h
    ·have:=aV _ (dW m h);omega
    omega
   obtain⟨env,hW,sB⟩:=lL _ ρ g' a hI (fun j hj=>dW j (by omega)) ha mN;exact Ed k1 0 m listed a g'.w dk c4 (fun j o hj ho=>k2 j o hj ho) (fun j hj=>⟨aV j,fun h=>dW j hj⟩) (by omega) (hW a sB)
  |succ fuel ih=>
   intro listed a ρ g' dk hI ha mN aV je Hm;by_cases oz: ∀j,j<m→listed.getD j false=true
   ·obtain⟨env,hW,sB⟩:=lL _ ρ g' a hI oz ha mN;refine Ed k1 (fuel+1) m listed a g'.w dk c4 (fun j o hj ho=>k2 j o hj ho) (fun j hj=>⟨aV j,oz j⟩) ?_ (hW a sB);have:=Hm (List.range' m (ops.size-m)) List.nodup_range' fun j hj=>by
     have:=List.mem_range'_1.1 hj;refine⟨by omega,?_⟩;cases h:listed.getD j false with
     |false=>rfl
     |true=>have:=aV j h;omega
    simpa using this
   have hex: ∃j,j<m∧listed.getD j false=false:=acJ fun dt=>oz fun j hj=>by
    cases h:listed.getD j false with
    |true=>rfl
    |false=>exact absurd ⟨j,hj,h⟩ dt
   obtain⟨j0,⟨hj0,Tu⟩,I9⟩:=least hex;have zo:j0∈Region.ready .any ops listed:=by
    rw[nr];have aV:j0<ops.size:=by omega
    refine⟨by rw[getD_lt (dk▸aV) true false];exact Tu,_,ac' aV,fun k hk=>?_⟩;have U_:=k1 j0 _ (ac' aV) k hk;cases h:listed.getD k false with
    |true=>rfl
    |false=>exact absurd ⟨by omega,h⟩ (I9 k U_)
   refine⟨fun h0=>(by rw[h0]at zo;cases zo),fun i hi=>?_⟩;obtain⟨h0,o,ho,dW⟩:=nr.1 hi;have Q4:i<ops.size:=(ab6.1 ho).1;rw[getD_lt (dk▸Q4) true false]at h0;have uk:i<m:=by
    rcases abc i m with h|h
    ·exact h
    obtain⟨d,⟨k,hk,hd,hu⟩,tQ⟩:=least (p:=fun d=> ∃k,k<i∧i-k=d∧listed.getD k false=false) ⟨_,j0,by omega,rfl,Tu⟩;obtain⟨i',o',h1,h2,h3,h4⟩:=k2 i o h ho k hk;cases hc:listed.getD i' false with
    |true=>rw[je i' o' hc h3 k h4]at hu;cases hu
    |false=>
     rcases abc i' i with h5|h5
     ·exact absurd ⟨i',h5,rfl,hc⟩ (tQ (i-i') (by omega))
     obtain rfl:i'=i:=by omega
     rw[ho]at h3;cases h3;rw[dW k h4]at hu;cases hu
   have U':gC ops i=o.dst:=by unfold gC;rw[ho];rfl
   obtain⟨env,E,E0,sB,hk,hE,hE0⟩:=Bb _ ρ g' i o a hI uk ho h0 dW je ha mN;have hL:(fun j=>(listed.setIfInBounds i true).getD j false)=sC (fun j=>listed.getD j false) i:=funext fun j=>by
    unfold sC;by_cases e:j=i
    ·subst e;simp[dk,Q4]
    simp only[acX,if_neg e];rw[adg (fun q=>e q.symm)]
   have TG: ∀j,(listed.setIfInBounds i true).getD j false=sC (fun j=>listed.getD j false) i j:=fun j=>congrFun hL j;have wK: ∀(ez:G) (v:Value),I (sC (fun j=>listed.getD j false) i) (Cq ρ i v) ez→wpAnyIn F 0 P .any ops Q fuel (listed.setIfInBounds i true) (a.put o.dst v) ez.w:=by
    intro ez v hI';have LD: ∀t,o.dst≠some t→(a.put o.dst v).tmps[t]? =a.tmps[t]?:=fun t ht=>by
     cases TH:o.dst with
     |none=>rfl
     |some d=>exact adg (fun e=>ht (by rw[TH,e]))
    refine ih _ _ (Cq ρ i v) ez (by simpa using dk) (by rw[hL];exact hI') ⟨by cases o.dst<;>exact ha.defers,by cases o.dst<;>simp[Act.put,ha.size],fun t u hu=>?_⟩ (fun j d hj hd=>?_) (fun j hj=>?_) (fun k o' hk RR e he=>?_) fun S hS Y4=>?_
    ·rw[LD t (fun e=>by rw[(k3 i uk t (U'.trans e)).2.1]at hu;cases hu)];exact ha.get t u hu
    ·replace hj:=(TG j).symm.trans hj;refine y9 (p:=fun j v'=>gC ops j=some d→(a.put o.dst v).tmps[d]? =some v') (fun hd=>?_) (fun j Tk hj hd=>?_) j hj hd
     ·rw[U']at hd;rw[hd];exact(adu ..).trans (if_pos (by rw[ha.size];exact(k3 i uk d (U'.trans hd)).1))
     rw[LD d fun e=>(k3 j (aV j hj) d hd).2.2 i uk (fun h=>Tk h.symm) (U'.trans e)];exact mN j d hj hd
    ·replace hj:=(TG j).symm.trans hj;exact y9 (ρ:=ρ) (v:=v) (p:=fun j _=>j<m) uk (fun j _=>aV j) j hj
    ·rw[TG]at hk⊢;have hle:listed.getD e false=true→sC (fun j=>listed.getD j false) i e=true:=fun h=>by unfold sC;split;rfl;exact h
     refine y9 (ρ:=ρ) (v:=v) (p:=fun k _=>ops[k]? =some o'→e∈uU o'→sC (fun j=>listed.getD j false) i e=true) (fun RR he=>?_) (fun k _ hk RR he=>hle (je k o' hk RR e he)) k hk RR he;rw[ho]at RR;cases RR;exact hle (dW e he)
    have:=Hm (i::S) (acL.2 ⟨fun h=>(by have:=(Y4 i h).2;rw[TG,uW]at this;cases this),hS⟩) fun j hj=>by
     rcases aav.1 hj with rfl|hj
     ·exact⟨Q4,h0⟩
     have:=Y4 j hj;rw[TG]at this;refine⟨this.1,?_⟩;unfold sC at this;split at this
     ·cases this.2
     exact this.2
    simpa using this
   unfold wpOpIn;rw[ho];simp only;cases hg:rP ops env o.guard with
   |none=>rw[hg]at hk;exact hk.elim
   |some b=>
    have Po:Region.wanted o (yielded ops a.tmps)=b:=qZ (l:=env) (o:=o) hg sB;rw[hg]at hk;cases b with
    |true=>
     rw[if_pos Po];exact Oper.wpIn_mono (fun a' w' ⟨v,he,ez,hw,h⟩=>hw▸he▸wK ez v (hE v ez h)) (hk a sB)
    |false=>
     rw[if_neg (by rw[Po];simp)];exact⟨fun f _=>hF f,wK g' undef (hE0 hk)⟩
 have hn: ∀j,((Array.replicate ops.size false).getD j false)=false:=fun j=>by simp only[acX,Array.getElem?_replicate];split<;>rfl
 refine key ops.size _ a (fun _=>undef) g.dr (by simp) (by rw[show(fun j=>(Array.replicate ops.size false).getD j false)=fun _=>false from funext hn];exact hI) ha (fun j d h=>?_) (fun j h=>?_) (fun k o h=>?_) fun S hS h=>nodup_lt_length _ S hS fun x hx=>(h x hx).1
 all_goals cases(hn _).symm.trans h
theorem Q0{id:Nat}{g:G}(hF: ∀f,F.fn f)(hm:P.follows .mixedOrders=true)(φs:List Fact)(m:Nat)(outs:List (Nat×Nat))(kQ:vY N ops l0 m=true)
  (houts:outs.all (fun p=>Nat.blt p.1 m&&(gC ops p.1==some p.2))=true)
  (iF:mM F P N ds ops Q φs l0 g.dr 0 (ops.toList.take m))
  (lL: ∀g',bW g.dr g'→QA φs g' outs l0 fun env=>WL F P N ds ops Q (ops.toList.drop m) env g'.w):W F P N ds (.region id ops true) Q l0 g.w:=
 xT hF hm m (DV kQ) (fun L ρ g'=>bW g.dr g'∧ ∀j,L j=true→(iT φs j).p (ρ j) g') ⟨bW.refl _,fun _ h=>(by cases h)⟩
  (fun L ρ g' i o a ⟨hf,hφ⟩ uk ho _ dW _ ha mN=>by
   obtain⟨env,hk,sB⟩:=Bg (iZ.at iF uk ho g' hf) ha mN fun p hp=>⟨dW _ (gH hp).1,(gH hp).2,hφ _ (dW _ (gH hp).1)⟩
   exact⟨env,_,_,sB,hk,fun v ez h=>⟨hf.trans h.1,zl h.2 fun j _ hj=>(iT φs j).mono _ _ _ h.1 (hφ j hj)⟩,fun h=>⟨hf,zl h fun j _=>hφ j⟩⟩)
  fun L ρ g' a ⟨hf,hφ⟩ dW ha mN=>Bg (lL g' hf) ha mN fun p hp=>have h:=uV houts hp;⟨dW _ h.1,h.2,hφ _ (dW _ h.1)⟩
end Go.K

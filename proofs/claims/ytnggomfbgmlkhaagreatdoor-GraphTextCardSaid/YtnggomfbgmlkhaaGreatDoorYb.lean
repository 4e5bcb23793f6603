/- Regions that draw their order, entering and leaving functions, ranges over functions. -/
import Derived.Test.YtnggomfbgmlkhaaGreatDoorYa
import Derived.WalkSpells
import Derived.WalkLawsBesides

/- A region that draws its order: its operations are shown one by one, each in whatever world the others may have left; what each yields is a fact that further new memory does not turn. -/
namespace Go.K
open Go Go.RowKit

structure Fact where
 p : Value → G → Prop
 mono : ∀ v g g', Fr0 g g' → p v g → p v g'

def Fact.eq (x : Value) : Fact := ⟨fun v _ => v = x, fun _ _ _ _ h => h⟩
def Fact.any : Fact := ⟨fun _ _ => True, fun _ _ _ _ h => h⟩
def Fact.rs {α : Type} [El α] (xs : List α) : Fact := ⟨fun v g => Rs g v xs, fun _ _ _ hf h => h.mono hf.le⟩
def Fact.ep (c : Nat → Nat → G → Prop) (hc : ∀ b p g g', Fr0 g g' → c b p g → c b p g') : Fact :=
 ⟨fun v g => ∃ b p, v = .pointer (some ⟨b, p, none⟩) ∧ c b p g, fun _ _ _ hf ⟨b, p, e, h⟩ => ⟨b, p, e, hc _ _ _ _ hf h⟩⟩

def fct (φs : List Fact) (i : Nat) : Fact := φs.getD i Fact.any

def edg (o : Oper) : List Nat := (o.after.toList.filter (Region.binds .any)).map (·.on)

def opSlots (o : Oper) : List Nat := o.op.operands.toList.filterMap fun | .tmp t => some t | _ => none

def dstOf (ops : Array Oper) (j : Nat) : Option Nat := (ops[j]?).bind (·.dst)

/-- The operations whose results an operation looks at, with their slots. -/
def needs (ops : Array Oper) (o : Oper) : List (Nat × Nat) :=
 (edg o).filterMap fun j =>
  match dstOf ops j with
  | some d => bif (opSlots o).contains d || (match o.guard with | some (g, _) => g == j | none => false) then some (j, d) else none
  | none => none

def QA (φs : List Fact) (g : G) : List (Nat × Nat) → Env → (Env → Prop) → Prop
 | [], l, k => k l
 | (j, d) :: r, l, k => ∀ v, (fct φs j).p v g → QA φs g r ((d, v) :: l) k

variable (F : Fence) (P : Program) (N : Nat) (ds : List Deferred) (ops : Array Oper) (Q : Exit → Act → World → Prop) (φs : List Fact) (l0 : Env) (gd : G)

def StepD (i : Nat) (o : Oper) : Prop :=
 ∀ g', Fr0 gd g' → QA φs g' (needs ops o) l0 fun env =>
  match gdx ops env o.guard with
  | some true => OpR F P N ds o env g'.w Q fun v w' => ∃ g'', g''.w = w' ∧ Fr0 g' g'' ∧ (fct φs i).p v g''
  | some false => (fct φs i).p undef g'
  | none => False

def StepsD : Nat → List Oper → Prop
 | _, [] => True
 | i, o :: os => StepD F P N ds ops Q φs l0 gd i o ∧ StepsD (i + 1) os

/-- The order's own checks, by computation. -/
def drawOk (m : Nat) : Bool :=
 (List.range ops.size).all (fun i => match ops[i]? with | some o => (edg o).all (fun j => Nat.blt j i) | none => true) &&
 (List.range ops.size).all (fun j => Nat.blt j m || (List.range j).all (fun k => (List.range (j + 1)).any (fun i => Nat.blt k i && (match ops[i]? with | some o => (edg o).contains k | none => false)))) &&
 (List.range m).all (fun i => match dstOf ops i with
  | some d => Nat.blt d N && (lk l0 d).isNone && (List.range m).all (fun j => j == i || (match dstOf ops j with | some e => e != d | none => false))
  | none => false) && Nat.ble m ops.size

variable {F P N ds ops Q φs l0 gd}

theorem edg_mem {o : Oper} {j : Nat} : j ∈ edg o ↔ ∃ e ∈ o.after, Region.binds .any e = true ∧ e.on = j := by
 unfold edg
 rw [List.mem_map]
 constructor
 ·rintro ⟨e, he, rfl⟩
  rw [List.mem_filter] at he
  exact ⟨e, by simpa using he.1, he.2, rfl⟩
 ·rintro ⟨e, he, hb, rfl⟩
  exact ⟨e, List.mem_filter.2 ⟨by simpa using he, hb⟩, rfl⟩

theorem ready_iff {j : Nat} {listed : Array Bool} : j ∈ Region.ready .any ops listed ↔ listed.getD j true = false ∧ ∃ o, ops[j]? = some o ∧ ∀ k ∈ edg o, listed.getD k false = true := by
 rw [mem_ready]
 constructor
 ·rintro ⟨h0, o, ho, h⟩
  refine ⟨h0, o, ho, fun k hk => ?_⟩
  obtain ⟨e, he, hb, rfl⟩ := edg_mem.1 hk
  exact h e he hb
 ·rintro ⟨h0, o, ho, h⟩
  exact ⟨h0, o, ho, fun e he hb => h _ (edg_mem.2 ⟨e, he, hb, rfl⟩)⟩

theorem getD_lt {listed : Array Bool} {j : Nat} (h : j < listed.size) (a b : Bool) : listed.getD j a = listed.getD j b := by simp [h]

/-- Behind a forced tail. -/
theorem tail_run (h1 : ∀ i o, ops[i]? = some o → ∀ j ∈ edg o, j < i) : ∀ (fuel i : Nat) (listed : Array Bool) (a : Act) (w : World), listed.size = ops.size → i ≤ ops.size → (∀ j o, i ≤ j → ops[j]? = some o → ∀ k, k < j → ∃ i' o', k < i' ∧ i' ≤ j ∧ ops[i']? = some o' ∧ k ∈ edg o') →
  (∀ j, j < ops.size → (listed.getD j false = true ↔ j < i)) → ops.size - i ≤ fuel → wpListIn F 0 P ops Q (ops.toList.drop i) a w → wpAnyIn F 0 P .any ops Q fuel listed a w := by
 intro fuel
 induction fuel with
 | zero =>
  intro i listed a w hsz hi _ hl hf h
  have hie : i = ops.size := by omega
  subst hie
  have hr : Region.ready .any ops listed = [] := by
   apply List.eq_nil_iff_forall_not_mem.2
   intro j hj
   obtain ⟨h0, o, ho, _⟩ := ready_iff.1 hj
   have hlt : j < ops.size := (Array.getElem?_eq_some_iff.1 ho).1
   rw [getD_lt (hsz ▸ hlt) true false] at h0
   rw [(hl j hlt).2 hlt] at h0
   cases h0
  rw [List.drop_of_length_le (by simp)] at h
  exact ⟨hr, h⟩
 | succ fuel ih =>
  intro i listed a w hsz hi ht hl hf h
  by_cases hie : i = ops.size
  ·subst hie
   have hr : Region.ready .any ops listed = [] := by
    apply List.eq_nil_iff_forall_not_mem.2
    intro j hj
    obtain ⟨h0, o, ho, _⟩ := ready_iff.1 hj
    have hlt : j < ops.size := (Array.getElem?_eq_some_iff.1 ho).1
    rw [getD_lt (hsz ▸ hlt) true false] at h0
    rw [(hl j hlt).2 hlt] at h0
    cases h0
   rw [List.drop_of_length_le (by simp)] at h
   exact ⟨fun _ => h, by rw [hr]; simp⟩
  ·have hlt : i < ops.size := by omega
   have ho : ops[i]? = some ops[i] := Array.getElem?_eq_getElem hlt
   have hready : i ∈ Region.ready .any ops listed := by
    rw [ready_iff]
    refine ⟨?_, _, ho, fun k hk => ?_⟩
    ·rw [getD_lt (hsz ▸ hlt) true false]
     cases hc : listed.getD i false with
     | false => rfl
     | true => have := (hl i hlt).1 hc; omega
    ·have := h1 i _ ho k hk
     exact (hl k (by omega)).2 this
   refine ⟨fun h0 => (by rw [h0] at hready; cases hready), fun j hj => ?_⟩
   obtain ⟨h0, o, ho', hall⟩ := ready_iff.1 hj
   have hjlt : j < ops.size := (Array.getElem?_eq_some_iff.1 ho').1
   rw [getD_lt (hsz ▸ hjlt) true false] at h0
   have hji : i ≤ j := by
    rcases Nat.lt_or_ge j i with h | h
    ·rw [(hl j hjlt).2 h] at h0; cases h0
    ·exact h
   have hje : j = i := by
    rcases Nat.lt_or_ge i j with h | h
    ·obtain ⟨i', o2, h5, h6, h7, h8⟩ := ht j o hji ho' (j - 1) (by omega)
     obtain rfl : i' = j := by omega
     rw [ho'] at h7
     obtain rfl := Option.some.inj h7
     have := (hl (i' - 1) (by omega)).1 (hall _ h8)
     omega
    ·omega
   subst hje
   have hd : ops.toList.drop j = ops[j] :: ops.toList.drop (j + 1) := by
    rw [List.drop_eq_getElem_cons (by simpa using hlt)]; simp
   rw [hd] at h
   have hnext : ∀ a' w', wpListIn F 0 P ops Q (ops.toList.drop (j + 1)) a' w' → wpAnyIn F 0 P .any ops Q fuel (listed.setIfInBounds j true) a' w' := by
    intro a' w' h'
    refine ih (j + 1) _ a' w' (by simpa using hsz) (by omega) (fun j' o' hj' => ht j' o' (by omega)) (fun k hk => ?_) (by omega) h'
    by_cases hkj : k = j
    ·subst hkj
     simp [hsz, hlt]
    ·have : (listed.setIfInBounds j true).getD k false = listed.getD k false := by
      simp only [Array.getD_eq_getD_getElem?]
      rw [Array.getElem?_setIfInBounds_ne (fun e => hkj e.symm)]
     rw [this, hl k hk]
     omega
   unfold wpOpIn
   rw [ho]
   simp only
   simp only [wpListIn] at h
   split
   ·rename_i hw
    rw [if_pos hw] at h
    exact Oper.wpIn_mono hnext h
   ·rename_i hw
    rw [if_neg hw] at h
    exact ⟨h.1, hnext _ _ h.2⟩

theorem QA_use {g : G} {a : Act} : ∀ (js : List (Nat × Nat)) {l : Env} {k : Env → Prop}, QA φs g js l k → Fr N ds l a → (∀ p ∈ js, ∃ v, a.tmps[p.2]? = some v ∧ (fct φs p.1).p v g) → ∃ env, k env ∧ Fr N ds env a
 | [], l, k, h, ha, _ => ⟨l, h, ha⟩
 | (j, d) :: r, l, k, h, ha, hp => by
  obtain ⟨v, hv, hf⟩ := hp (j, d) (by simp)
  refine QA_use r (h v hf) ⟨ha.defers, ha.size, fun t u hu => ?_⟩ (fun p hp' => hp p (by simp [hp']))
  by_cases e : d = t
  ·subst e
   rw [lk_cons_same] at hu
   rw [← hu]; exact hv
  ·rw [lk_cons_other _ _ e] at hu
   exact ha.get t u hu

theorem StepsD.at {i0 : Nat} : ∀ {l : List Oper} {i0 : Nat}, StepsD F P N ds ops Q φs l0 gd i0 l → ∀ (j : Nat) o, l[j]? = some o → StepD F P N ds ops Q φs l0 gd (i0 + j) o
 | [], _, _, j, o, h => by simp at h
 | x :: l, i0, hs, 0, o, h => by
  simp only [List.getElem?_cons_zero, Option.some.injEq] at h
  subst h
  exact hs.1
 | x :: l, i0, hs, j + 1, o, h => by
  simp only [List.getElem?_cons_succ] at h
  have := StepsD.at (i0 := i0) hs.2 j o h
  rw [show i0 + (j + 1) = i0 + 1 + j from by omega]
  exact this

theorem W_draw {id : Nat} {g : G} (hF : ∀ f, F.fn f) (hm : P.follows .mixedOrders = true) (φs : List Fact) (m : Nat) (outs : List (Nat × Nat)) (hok : drawOk N ops l0 m = true)
  (houts : outs.all (fun p => Nat.blt p.1 m && (dstOf ops p.1 == some p.2)) = true)
  (hsteps : StepsD F P N ds ops Q φs l0 g.dr 0 (ops.toList.take m))
  (hend : ∀ g', Fr0 g.dr g' → QA φs g' outs l0 fun env => WL F P N ds ops Q (ops.toList.drop m) env g'.w) : W F P N ds (.region id ops true) Q l0 g.w := by
 intro a ha
 simp only [drawOk, Bool.and_eq_true, List.all_eq_true, List.mem_range] at hok
 obtain ⟨⟨⟨c1, c2⟩, c3⟩, c4⟩ := hok
 have c4 : m ≤ ops.size := Nat.le_of_ble_eq_true c4
 have k1 : ∀ i o, ops[i]? = some o → ∀ j ∈ edg o, j < i := by
  intro i o ho j hj
  have := c1 i (Array.getElem?_eq_some_iff.1 ho).1
  rw [ho] at this
  have := (List.all_eq_true.1 this) j hj
  simpa [Nat.blt_eq] using this
 have k2 : ∀ j o, m ≤ j → ops[j]? = some o → ∀ k, k < j → ∃ i' o', k < i' ∧ i' ≤ j ∧ ops[i']? = some o' ∧ k ∈ edg o' := by
  intro j o hj ho k hk
  have := c2 j (Array.getElem?_eq_some_iff.1 ho).1
  simp only [Bool.or_eq_true] at this
  rcases this with h | h
  ·have : j < m := by simpa [Nat.blt_eq] using h
   omega
  ·have := (List.all_eq_true.1 h) k (List.mem_range.2 hk)
   obtain ⟨i', h1, h2⟩ := List.any_eq_true.1 this
   simp only [Bool.and_eq_true] at h2
   have h3 := List.mem_range.1 h1
   cases ho' : ops[i']? with
   | none => rw [ho'] at h2; simp at h2
   | some o' =>
    rw [ho'] at h2
    exact ⟨i', o', by simpa [Nat.blt_eq] using h2.1, by omega, ho', by simpa using h2.2⟩
 -- where all that an operation waits for is listed, all ahead of it is
 have k4 : ∀ (listed : Array Bool), (∀ k o, listed.getD k false = true → ops[k]? = some o → ∀ e ∈ edg o, listed.getD e false = true) → ∀ j o, m ≤ j → ops[j]? = some o → (∀ e ∈ edg o, listed.getD e false = true) → ∀ k, k < j → listed.getD k false = true := by
  intro listed hcl j o hj ho hall
  have : ∀ d k, k < j → j - k = d → listed.getD k false = true := by
   intro d
   induction d using Nat.strongRecOn with
   | _ d ihd =>
    intro k hk hd
    obtain ⟨i', o', h1, h2, h3, h4⟩ := k2 j o hj ho k hk
    rcases Nat.lt_or_ge i' j with h | h
    ·exact hcl i' o' (ihd (j - i') (by omega) i' h rfl) h3 k h4
    ·obtain rfl : i' = j := by omega
     rw [ho] at h3
     obtain rfl := Option.some.inj h3
     exact hall k h4
  exact fun k hk => this _ k hk rfl
 have k3 : ∀ i, i < m → ∃ d, dstOf ops i = some d ∧ d < N ∧ lk l0 d = none ∧ ∀ j, j < m → j ≠ i → ∃ e, dstOf ops j = some e ∧ e ≠ d := by
  intro i hi
  have := c3 i hi
  cases hd : dstOf ops i with
  | none => simp [hd] at this
  | some d =>
   simp only [hd, Bool.and_eq_true, List.all_eq_true, List.mem_range, Bool.or_eq_true] at this
   refine ⟨d, rfl, by simpa [Nat.blt_eq] using this.1.1, by simpa using this.1.2, fun j hj hne => ?_⟩
   rcases this.2 j hj with h | h
   ·exact absurd (by simpa using h) hne
   ·cases he : dstOf ops j with
    | none => simp [he] at h
    | some e => exact ⟨e, rfl, by simpa [he] using h⟩
 refine wpIn_region_any hm ?_
 -- the relation
 have key : ∀ (fuel : Nat) (listed : Array Bool) (a : Act) (g' : G), listed.size = ops.size → Fr0 g.dr g' → Fr N ds l0 a →
   (∀ i, i < m → listed.getD i false = true → ∃ d v, dstOf ops i = some d ∧ a.tmps[d]? = some v ∧ (fct φs i).p v g') → (∀ j, m ≤ j → j < ops.size → listed.getD j false = false) → (∀ k o, listed.getD k false = true → ops[k]? = some o → ∀ e ∈ edg o, listed.getD e false = true) →
   (ops.size - ((List.range ops.size).filter fun i => listed.getD i false).length ≤ fuel) → wpAnyIn F 0 P .any ops Q fuel listed a g'.w := by
  intro fuel
  induction fuel with
  | zero =>
   intro listed a g' hsz hf ha hfacts htail hcl hfuel
   have hall : ∀ j, j < ops.size → listed.getD j false = true := by
    have hlen : ((List.range ops.size).filter fun i => listed.getD i false).length = (List.range ops.size).length := by
     have := List.length_filter_le (fun i => listed.getD i false) (List.range ops.size)
     simp only [List.length_range] at this ⊢
     omega
    have := List.length_filter_eq_length_iff.1 hlen
    intro j hj
    exact this j (List.mem_range.2 hj)
   have hme : m = ops.size := by
    rcases Nat.lt_or_ge m ops.size with h | h
    ·have := htail m (Nat.le_refl _) h; rw [hall m h] at this; cases this
    ·omega
   obtain ⟨env, hW, henv⟩ := QA_use outs (hend g' hf) ha (fun p hp => by
    have := (List.all_eq_true.1 houts) p hp
    simp only [Bool.and_eq_true, beq_iff_eq] at this
    have hlt : p.1 < m := by simpa [Nat.blt_eq] using this.1
    obtain ⟨d, v, hd, hv, hfv⟩ := hfacts p.1 hlt (hall _ (by omega))
    rw [this.2] at hd
    obtain rfl := Option.some.inj hd
    exact ⟨v, hv, hfv⟩)
   refine tail_run k1 0 ops.size listed a g'.w hsz (Nat.le_refl _) (fun j o hj ho => ?_) (fun j hj => ⟨fun _ => hj, fun _ => hall j hj⟩) (by omega) (by rw [← hme]; exact hW a henv)
   have := (Array.getElem?_eq_some_iff.1 ho).1
   omega
  | succ fuel ih =>
   intro listed a g' hsz hf ha hfacts htail hcl hfuel
   by_cases hpre : ∀ j, j < m → listed.getD j false = true
   ·obtain ⟨env, hW, henv⟩ := QA_use outs (hend g' hf) ha (fun p hp => by
     have := (List.all_eq_true.1 houts) p hp
     simp only [Bool.and_eq_true, beq_iff_eq] at this
     have hlt : p.1 < m := by simpa [Nat.blt_eq] using this.1
     obtain ⟨d, v, hd, hv, hfv⟩ := hfacts p.1 hlt (hpre _ hlt)
     rw [this.2] at hd
     obtain rfl := Option.some.inj hd
     exact ⟨v, hv, hfv⟩)
    refine tail_run k1 (fuel + 1) m listed a g'.w hsz c4 (fun j o hj ho => k2 j o hj ho) (fun j hj => ⟨fun h => ?_, fun h => hpre j h⟩) ?_ (hW a henv)
    ·rcases Nat.lt_or_ge j m with h' | h'
     ·exact h'
     ·rw [htail j h' hj] at h; cases h
    ·have hle : ((List.range ops.size).filter fun i => listed.getD i false).length ≤ m := by
      have hsub : ((List.range ops.size).filter fun i => listed.getD i false).length ≤ ((List.range ops.size).filter fun i => decide (i < m)).length := by
       refine List.Sublist.length_le ?_
       rw [show ((List.range ops.size).filter fun i => listed.getD i false) = ((List.range ops.size).filter fun i => decide (i < m)).filter (fun i => listed.getD i false) from ?_]
       ·exact List.filter_sublist
       ·rw [List.filter_filter]
        refine List.filter_congr fun i hi => ?_
        have hi := List.mem_range.1 hi
        by_cases h : i < m
        ·simp [h]
        ·rw [htail i (by omega) hi]; simp
      have : ((List.range ops.size).filter fun i => decide (i < m)).length = m := by
       have e : ops.size = m + (ops.size - m) := by omega
       rw [e, List.range_add, List.filter_append, List.length_append, List.filter_eq_self.2 (by intro x hx; simpa using hx), List.filter_eq_nil_iff.2 (by
        intro x hx
        obtain ⟨y, _, rfl⟩ := List.mem_map.1 hx
        simp)]
       simp
      omega
     omega
   ·-- something of the first part is not listed: the least such is ready
    have hex : ∃ j, j < m ∧ listed.getD j false = false ∧ ∀ k, k < j → listed.getD k false = true := by
     have : ∃ j, j < m ∧ listed.getD j false = false := by
      apply Classical.byContradiction
      intro hno
      apply hpre
      intro j hj
      cases hc : listed.getD j false with
      | true => rfl
      | false => exact absurd ⟨j, hj, hc⟩ hno
     obtain ⟨j, hj⟩ := this
     induction j using Nat.strongRecOn with
     | _ j ihj =>
      by_cases hk : ∃ k, k < j ∧ listed.getD k false = false
      ·obtain ⟨k, hk1, hk2⟩ := hk
       exact ihj k hk1 ⟨by omega, hk2⟩
      ·refine ⟨j, hj.1, hj.2, fun k hk1 => ?_⟩
       cases hc : listed.getD k false with
       | true => rfl
       | false => exact absurd ⟨k, hk1, hc⟩ hk
    obtain ⟨j0, hj0, hj1, hj2⟩ := hex
    have hready : j0 ∈ Region.ready .any ops listed := by
     rw [ready_iff]
     have hlt : j0 < ops.size := by omega
     refine ⟨by rw [getD_lt (hsz ▸ hlt) true false]; exact hj1, _, Array.getElem?_eq_getElem hlt, fun k hk => hj2 k (k1 j0 _ (Array.getElem?_eq_getElem hlt) k hk)⟩
    refine ⟨fun h0 => (by rw [h0] at hready; cases hready), fun i hi => ?_⟩
    obtain ⟨h0, o, ho, hall⟩ := ready_iff.1 hi
    have hilt : i < ops.size := (Array.getElem?_eq_some_iff.1 ho).1
    rw [getD_lt (hsz ▸ hilt) true false] at h0
    have him : i < m := by
     rcases Nat.lt_or_ge i m with h | h
     ·exact h
     ·have := k4 listed hcl i o h ho hall j0 (by omega); rw [hj1] at this; cases this
    obtain ⟨d, hd, hdN, hd0, hdne⟩ := k3 i him
    have hod : o.dst = some d := by unfold dstOf at hd; rw [ho] at hd; exact hd
    have hstep := hsteps.at (i0 := 0) i o (by rw [List.getElem?_take_of_lt him]; simpa using ho)
    rw [Nat.zero_add] at hstep
    have hneeds : ∀ p ∈ needs ops o, ∃ v, a.tmps[p.2]? = some v ∧ (fct φs p.1).p v g' := by
     intro p hp
     unfold needs at hp
     obtain ⟨j, hj, hjp⟩ := List.mem_filterMap.1 hp
     cases hdj : dstOf ops j with
     | none => simp [hdj] at hjp
     | some e =>
      simp only [hdj] at hjp
      have hjm : j < m := by have := k1 i o ho j hj; omega
      obtain ⟨d', v, hd', hv, hfv⟩ := hfacts j hjm (hall j hj)
      rw [hdj] at hd'
      obtain rfl := Option.some.inj hd'
      cases hb : ((opSlots o).contains e || (match o.guard with | some (g, _) => g == j | none => false)) with
      | false => rw [hb] at hjp; simp at hjp
      | true =>
       rw [hb] at hjp
       simp only [cond_true, Option.some.injEq] at hjp
       subst hjp
       exact ⟨v, hv, hfv⟩
    obtain ⟨env, hk, henv⟩ := QA_use (needs ops o) (hstep g' hf) ha hneeds
    -- what is asked behind the operation
    have hnext : ∀ (a' : Act) (g'' : G) (v : Value), a' = a.put o.dst v → Fr0 g' g'' → (fct φs i).p v g'' → wpAnyIn F 0 P .any ops Q fuel (listed.setIfInBounds i true) a' g''.w := by
     intro a' g'' v he hf' hfv
     have hput : ∀ t, t ≠ d → a'.tmps[t]? = a.tmps[t]? := fun t ht => by
      rw [he, hod]
      simp only [Act.put]
      rw [Array.getElem?_setIfInBounds_ne (fun e => ht e.symm)]
     have hself : a'.tmps[d]? = some v := by
      rw [he, hod]
      simp only [Act.put]
      rw [Array.getElem?_setIfInBounds_self, if_pos (by rw [ha.size]; exact hdN)]
     have hset : ∀ k, k ≠ i → (listed.setIfInBounds i true).getD k false = listed.getD k false := fun k hk => by
      simp only [Array.getD_eq_getD_getElem?]
      rw [Array.getElem?_setIfInBounds_ne (fun e => hk e.symm)]
     have hsetself : (listed.setIfInBounds i true).getD i false = true := by simp [hsz, hilt]
     refine ih _ a' g'' (by simpa using hsz) (hf.trans hf') ⟨by rw [he, hod]; exact ha.defers, by rw [he, hod]; simp [Act.put, ha.size], fun t u hu => ?_⟩ (fun k hk hkl => ?_) (fun j hj hjs => ?_) (fun k o' hk hko e he => ?_) ?_
     ·have htd : t ≠ d := fun e => by subst e; rw [hd0] at hu; cases hu
      rw [hput t htd]; exact ha.get t u hu
     ·by_cases hki : k = i
      ·subst hki
       exact ⟨d, v, hd, hself, hfv⟩
      ·rw [hset k hki] at hkl
       obtain ⟨d', v', hd', hv', hfv'⟩ := hfacts k hk hkl
       obtain ⟨e, he1, he2⟩ := hdne k hk hki
       rw [hd'] at he1
       obtain rfl := Option.some.inj he1
       exact ⟨d', v', hd', by rw [hput d' he2]; exact hv', (fct φs k).mono _ _ _ hf' hfv'⟩
     ·rw [hset j (by omega)]
      exact htail j hj hjs
     ·have hle : ∀ x, listed.getD x false = true → (listed.setIfInBounds i true).getD x false = true := fun x hx => by
       by_cases hxi : x = i
       ·subst hxi; exact hsetself
       ·rw [hset x hxi]; exact hx
      by_cases hki : k = i
      ·subst hki
       rw [ho] at hko
       obtain rfl := Option.some.inj hko
       exact hle e (hall e he)
      ·rw [hset k hki] at hk
       exact hle e (hcl k o' hk hko e he)
     ·have hlt : ((List.range ops.size).filter fun k => listed.getD k false).length < ((List.range ops.size).filter fun k => (listed.setIfInBounds i true).getD k false).length := by
       have hsub : List.Sublist ((List.range ops.size).filter fun k => listed.getD k false) ((List.range ops.size).filter fun k => (listed.setIfInBounds i true).getD k false) := by
        have e : ((List.range ops.size).filter fun k => listed.getD k false) = ((List.range ops.size).filter fun k => (listed.setIfInBounds i true).getD k false).filter (fun k => listed.getD k false) := by
         rw [List.filter_filter]
         refine List.filter_congr fun k _ => ?_
         by_cases hki : k = i
         ·subst hki; rw [hsetself]; simp
         ·rw [hset k hki]; simp
        rw [e]
        exact List.filter_sublist
       refine Nat.lt_of_le_of_ne hsub.length_le fun e => ?_
       have := hsub.eq_of_length e
       have hin : i ∈ ((List.range ops.size).filter fun k => (listed.setIfInBounds i true).getD k false) := List.mem_filter.2 ⟨List.mem_range.2 hilt, hsetself⟩
       rw [← this] at hin
       have := (List.mem_filter.1 hin).2
       rw [h0] at this
       cases this
      omega
    unfold wpOpIn
    rw [ho]
    simp only
    cases hg : gdx ops env o.guard with
    | none => rw [hg] at hk; exact hk.elim
    | some b =>
     have hwant : Region.wanted o (yielded ops a.tmps) = b := gdx_spec (l := env) (o := o) hg henv
     rw [hg] at hk
     cases b with
     | true =>
      rw [if_pos hwant]
      exact Oper.wpIn_mono (fun a' w' ⟨v, he, g'', hw, hf', hfv⟩ => hw ▸ hnext a' g'' v he hf' hfv) (hk a henv)
     | false =>
      rw [if_neg (by rw [hwant]; simp)]
      exact ⟨fun f _ => hF f, hnext _ g' undef rfl (Fr0.refl _) hk⟩
 refine key ops.size _ a g.dr (by simp) (Fr0.refl _) ha (fun i hi hl => ?_) (fun j _ hj => by simp [hj]) (fun k o hl => ?_) (by omega)
 ·simp only [Array.getD_eq_getD_getElem?, Array.getElem?_replicate] at hl
  split at hl <;> simp at hl
 ·simp only [Array.getD_eq_getD_getElem?, Array.getElem?_replicate] at hl
  split at hl <;> simp at hl

end Go.K

/- Entering and leaving a function; struct literals; arrays behind pointers; tests against nil. -/
namespace Go.K
open Go Go.RowKit

variable {F : Fence} {P : Program} {N : Nat} {ds : List Deferred} {l l' : Env} {a : Act} {w : World} {Q : Exit → Act → World → Prop} {ops : Array Oper} {os : List Oper} {o : Oper}
variable {g0 g : G} {L : List Ent} {K : Value → World → Prop} {R : Ending → World → Prop}

/-! ### Entering -/

def argEnv : Nat → List Value → Env
 | _, [] => []
 | i, v :: r => (i, v) :: argEnv (i + 1) r

theorem lk_argEnv : ∀ (vs : List Value) (i t : Nat) (v : Value), lk (argEnv i vs) t = some v → ∃ j, t = i + j ∧ vs[j]? = some v
 | [], i, t, v, h => by simp [argEnv, lk] at h
 | u :: r, i, t, v, h => by
  by_cases e : i = t
  ·subst e
   simp only [argEnv, lk_cons_same, Option.some.injEq] at h
   exact ⟨0, rfl, by simp [h]⟩
  ·simp only [argEnv, lk_cons_other _ _ e] at h
   obtain ⟨j, rfl, hj⟩ := lk_argEnv r (i + 1) t v h
   exact ⟨j + 1, by omega, by simpa using hj⟩

theorem Fr_enter (args : Array Value) (N : Nat) (h : Nat.ble args.size N = true) : Fr N [] (argEnv 0 args.toList) { tmps := args ++ Array.replicate (N - args.size) undef, defers := [] } := by
 have h := Nat.le_of_ble_eq_true h
 refine ⟨rfl, by simp; omega, fun t v hv => ?_⟩
 obtain ⟨j, rfl, hj⟩ := lk_argEnv _ _ _ _ hv
 have hj' : args[j]? = some v := by simpa using hj
 have hlt := (Array.getElem?_eq_some_iff.1 hj').1
 rw [Nat.zero_add, Array.getElem?_append_left hlt, hj']

abbrev Wd : Fence := Fence.wide

/-- A function's contract from its body's walk. -/
theorem enter {f : FuncId} {fn : Func} {c : Code} {args : Array Value} (hf : P.funcs[f]? = some fn) (hb : fn.body = some c) (hN : fn.ntmps = N) (hle : Nat.ble args.size N = true)
  (h : W Wd P N [] c (bodyPost P fn R) (argEnv 0 args.toList) w) : CallsIn Wd 0 P f args w R := by
 refine callsIn_of_wp hf hb trivial ?_
 rw [hN]
 exact h _ (Fr_enter args N hle)

theorem enterM {f : FuncId} {fn : Func} {c : Code} {args : Array Value} (hf : P.funcs[f]? = some fn) (hb : fn.body = some c) (hN : fn.ntmps = N) (hle : Nat.ble args.size N = true)
  (h : W Wd P N [] c (bodyPostM Wd 0 P fn R) (argEnv 0 args.toList) w) : CallsIn Wd 0 P f args w R := by
 refine callsIn_of_wp_marks hf hb trivial ?_
 rw [hN]
 exact h _ (Fr_enter args N hle)

/-! ### Leaving -/

theorem ret0 {fn : Func} (hr : fn.results = #[]) (hR : R (.returned (.tuple #[])) w) (a : Act) (ha : Fr N [] l a) : bodyPost P fn R .ret a w :=
 ⟨ha.defers, _, results_none hr _ _ _, hR⟩
theorem end0 {fn : Func} (hr : fn.results = #[]) (hR : R (.returned (.tuple #[])) w) (a : Act) (ha : Fr N [] l a) : bodyPost P fn R .normal a w :=
 ⟨ha.defers, _, results_none hr _ _ _, hR⟩
theorem getD_of {t : Nat} {v : Value} (ha : Fr N ds l a) (h : lk l t = some v) : a.tmps.getD t undef = v := by
 simp [Array.getD_eq_getD_getElem?, ha.get t v h]
theorem ret1 {fn : Func} {t : Nat} {v : Value} (hr : fn.results = #[.tmp t]) (hl : lk l t = some v) (hR : R (.returned v) w) (a : Act) (ha : Fr N [] l a) : bodyPost P fn R .ret a w :=
 ⟨ha.defers, _, results_tmp hr _ _ _, by rw [getD_of ha hl]; exact hR⟩
theorem ret2 {fn : Func} {t u : Nat} {v x : Value} (hr : fn.results = #[.tmp t, .tmp u]) (hl : lk l t = some v) (hl2 : lk l u = some x) (hR : R (.returned (.tuple #[v, x])) w) (a : Act) (ha : Fr N [] l a) : bodyPost P fn R .ret a w :=
 ⟨ha.defers, _, results_tmp2 hr _ _ _, by rw [getD_of ha hl, getD_of ha hl2]; exact hR⟩
/-- A struct result, out of its own variable. -/
theorem retC {fn : Func} {tb : Tb} (htb : tb.ok P) (i : Nat) {t T b : Nat} {cs : List Value} {E : TypeId} {fz : Nat × Nat} {v : Value} (hr : fn.results = #[.cell t T]) (hs : St g0 g L) (hi : L[i]? = some (.obj b (.cells cs.toArray E fz)))
  (hl : lk l t = some (.pointer (some ⟨b, 0, none⟩))) (hv : ldl tb T cs 0 = some v) (hR : R (.returned v) g.w) (a : Act) (ha : Fr N [] l a) : bodyPost P fn R .ret a g.w := by
 refine ⟨ha.defers, v, ?_, hR⟩
 have := run_loadVar (P := P) (w := g.w) (off := 0) (o := 0) htb hv (obj_cells (hs.own i _ hi).2.1)
 simp only [Nat.add_zero] at this
 simp [results, hr, ha.get t _ hl, asAddr, this]

/-! ### A struct's literal -/

def places (tb : Tb) (fs : List (TypeId × Nat)) : List (Option (Nat × Nat)) := fs.map fun (t, off) => (tl tb t).map fun i => (off, i.size)

theorem OpR_build {tb : Tb} (htb : tb.ok P) {t : Nat} {ti : TI} {fs : List (TypeId × Nat)} {parts : Array (Nat × Operand)} {vs : List (Nat × Value)} {cells : List Value} (ho : o.op = .build t parts)
  (hp : evs l (parts.toList.map (·.2)) = some (vs.map (·.2))) (hp1 : parts.toList.map (·.1) = vs.map (·.1)) (hi : tl tb t = some ti) (hd : ti.desc = .struct fs) (pl : List (Nat × Nat)) (hpl : places tb fs = pl.map some)
  (hfill : Instr.fill (fun i => pl.toArray[i]?) ti.zero.cells vs = some cells.toArray) (k : K (.agg cells.toArray) w) : OpR F P N ds o l w Q K := by
 obtain ⟨⟨dd, hu, he⟩, inf, e1, e2, e3, e4⟩ := htb.at hi
 rw [hd] at he
 obtain ⟨fs', rfl, rfl⟩ := KD.of_struct he
 refine OpR_value (fun c => ⟨by rw [ho]; simp, by rw [ho]; simp⟩) (fun a ha => ?_) k
 have hvs' : List.map (fun x : Nat × Operand => (x.fst, a.eval x.snd)) parts.toList = vs := by
  have h2 := evs_spec ha hp
  rw [List.map_map] at h2
  have h3 : parts.toList.map (fun p => (p.1, a.eval p.2)) = (parts.toList.map (·.1)).zip (parts.toList.map (fun p => a.eval p.2)) := by rw [List.zip_map']
  have h4 : vs = (vs.map (·.1)).zip (vs.map (·.2)) := by rw [List.zip_map']; simp
  rw [h4, ← hp1, ← h2]
  exact h3
 have hplaces : ∀ (xs : List Field) (pl : List (Nat × Nat)), places tb (xs.map fun f => (f.type, f.offset)) = pl.map some → (xs.mapM fun f => do pure (f.offset, ← sizeOf f.type) : Sem (List (Nat × Nat))).run P w = .ok pl w := by
  intro xs
  induction xs with
  | nil => intro pl h; cases pl with
   | nil => rfl
   | cons _ _ => simp [places] at h
  | cons f xs ih =>
   intro pl h
   cases pl with
   | nil => simp [places] at h
   | cons q pl =>
    simp only [places, List.map_cons, List.cons.injEq] at h
    obtain ⟨h1, h2⟩ := h
    cases hj : tl tb f.type with
    | none => rw [hj] at h1; cases h1
    | some j =>
     rw [hj] at h1
     simp only [Option.map_some, Option.some.injEq] at h1
     obtain ⟨_, inf', f1, f2, _⟩ := htb.at hj
     have := ih pl h2
     simp only [List.mapM_cons, Sem.run_bind, sizeOf, typeInfo, run_program, Result.andThen_ok, f1, Sem.run_pure, f2] at this ⊢
     simp only [this, Result.andThen_ok, h1]
 have hm := hplaces fs'.toList pl hpl
 have hm' : (fs'.mapM fun f => do pure (f.offset, ← sizeOf f.type) : Sem (Array (Nat × Nat))).run P w = .ok pl.toArray w := by
  rw [Array.mapM_eq_mapM_toList]
  simp only [Sem.run_map, hm, Result.andThen_ok]
 have hz : (zeroValue t).run P w = .ok ti.zero w := by simp [zeroValue, typeInfo, e1, e4]
 simp only [execOp, ho, Instr.build, Sem.run_bind, hz, Result.andThen_ok, run_underlying hu, hm', Array.toList_map, hvs', hfill]
 simp

/-! ### An array behind a pointer -/

theorem OpR_idxA {tb : Tb} (htb : tb.ok P) {t e n : Nat} {i j : TI} {x ix : Operand} {kk : IntKind} {q b p : Nat} (ho : o.op = .indexAddr t x ix) (hx : ev l x = some (.pointer (some ⟨b, p, none⟩))) (hix : ev l ix = some (.int kk (q : Int)))
  (hi : tl tb t = some i) (hd : i.desc = .arr n e) (hj : tl tb e = some j) (hq : q < n) (k : K (.pointer (some ⟨b, p + q * j.size, none⟩)) w) : OpR F P N ds o l w Q K := by
 obtain ⟨⟨dd, hu, he⟩, _⟩ := htb.at hi
 rw [hd] at he
 obtain rfl := KD.of_arr he
 obtain ⟨_, inf, e1, e2, _⟩ := htb.at hj
 refine OpR_value (fun c => ⟨by rw [ho]; simp, by rw [ho]; simp⟩) (fun a ha => ?_) k
 have h1 : (q : Int) < (n : Int) := by omega
 simp [execOp, ho, ha.ev hx, ha.ev hix, Instr.indexAt, asIntOf, run_underlying hu, Instr.sureAddr, hq, sizeOf, typeInfo, e1, e2, Addr.add_lit]

/-! ### Tests against nil -/

theorem KD.of_ptr {d : TypeDesc} {e : TypeId} (h : KD.of d = .ptr e) : d = .pointer e := by
 cases d <;> simp only [KD.of, reduceCtorEq, KD.ptr.injEq] at h
 rw [h]

theorem OpR_eqNilSlice {tb : Tb} (htb : tb.ok P) {t e t' : Nat} {i : TI} {x y : Operand} {neg : Bool} {ad : Option Addr} {n c n' c' : Nat} (ho : o.op = .binOp (if neg then .neq else .eql) t x y t') (hx : ev l x = some (.slice ad n c)) (hy : ev l y = some (.slice none n' c'))
  (hi : tl tb t = some i) (hd : i.desc = .slice e) (k : K (.bool (neg != ad.isNone)) w) : OpR F P N ds o l w Q K := by
 obtain ⟨⟨dd, hu, he⟩, _⟩ := htb.at hi
 rw [hd] at he
 obtain rfl := KD.of_slice he
 refine OpR_value (fun c => ⟨by rw [ho]; simp, by rw [ho]; simp⟩) (fun a ha => ?_) k
 have hg : ∀ op, (eqGuard op t x y (.slice ad n c) (.slice none n' c')).run P w = .ok () w := fun op => by unfold eqGuard; split <;> rfl
 have hq : ∀ d, (Op.equalIn (d + 1) t (.slice ad n c) (.slice none n' c')).run P w = .ok ad.isNone w := fun d => by
  cases ad <;> simp [Op.equalIn, run_underlying hu]
 have heq : (Op.equal t (.slice ad n c) (.slice none n' c')).run P w = .ok ad.isNone w := hq 9999
 cases neg <;> simp [execOp, ho, ha.ev hx, ha.ev hy, hg, binOp, heq]

theorem OpR_eqNilPtr {tb : Tb} (htb : tb.ok P) {t e t' : Nat} {i : TI} {x y : Operand} {neg : Bool} {ad : Option Addr} (ho : o.op = .binOp (if neg then .neq else .eql) t x y t') (hx : ev l x = some (.pointer ad)) (hy : ev l y = some (.pointer none))
  (hi : tl tb t = some i) (hd : i.desc = .ptr e) (k : K (.bool (neg != ad.isNone)) w) : OpR F P N ds o l w Q K := by
 obtain ⟨⟨dd, hu, he⟩, _⟩ := htb.at hi
 rw [hd] at he
 obtain rfl := KD.of_ptr he
 refine OpR_value (fun c => ⟨by rw [ho]; simp, by rw [ho]; simp⟩) (fun a ha => ?_) k
 have hg : ∀ op, (eqGuard op t x y (.pointer ad) (.pointer none)).run P w = .ok () w := fun op => by unfold eqGuard; split <;> rfl
 have hq : ∀ d, (Op.equalIn (d + 1) t (.pointer ad) (.pointer none)).run P w = .ok ad.isNone w := fun d => by
  cases ad <;> simp [Op.equalIn, run_underlying hu]
 have heq : (Op.equal t (.pointer ad) (.pointer none)).run P w = .ok ad.isNone w := hq 9999
 cases neg <;> simp [execOp, ho, ha.ev hx, ha.ev hy, hg, binOp, heq]

/-! ### What a contract says of a result -/

/-- A call that keeps all that was there: its result, and the state behind it. -/
def Ret (g : G) (R : G → Value → Prop) : Ending → World → Prop := fun e w' => ∃ g' v, g'.w = w' ∧ Fr0 g g' ∧ e = .returned v ∧ R g' v

theorem St.ret {R : G → Value → Prop} {v : Value} (hs : St g0 g L) (h : R g v) : Ret g0 R (.returned v) g.w := ⟨g, v, rfl, hs.fr0, rfl, h⟩

/-- A call by its contract, in a walk. -/
theorem OpR_ret {R : G → Value → Prop} {f : FuncId} (hc : Callable P f) (hF : ∀ f, F.fn f) (hdep : F.depth = none) {x : Operand} {args : Array Operand} {ts : Array TypeId} {first captured : Array Value} {vs as : List Value}
  (ho : o.op = .call { callee := .value x, args, argTypes := ts }) (hx : ev l x = some (.func (.func f) first captured)) (ha : evs l args.toList = some vs) (has : first.toList ++ vs ++ captured.toList = as)
  (h : CallsIn F 0 P f as.toArray g.w (Ret g R)) (k : ∀ g' v, Fr0 g g' → R g' v → K v g'.w) : OpR F P N ds o l g.w Q K :=
 OpR_call hc hF hdep ho hx ha has (CallsIn.mono h fun _ _ ⟨g', v, hw, hf, he, hr⟩ => ⟨v, he, hw ▸ k g' v hf hr⟩)

end Go.K

/- A range over a function: the iterator by its contract, the loop by what holds between its rounds. -/
namespace Go.K
open Go Go.RowKit

variable {F : Fence} {P : Program} {N : Nat} {ds : List Deferred} {l l' : Env} {a : Act} {w : World} {Q : Exit → Act → World → Prop} {ops : Array Oper} {os : List Oper} {o : Oper}
variable {g0 g : G} {L : List Ent} {K : Value → World → Prop} {R : Ending → World → Prop}

/-- A call of a function value, a closure or a loop's yield. -/
def CallV (P : Program) (fv : Value) (args : List Value) (w : World) (R : Ending → World → Prop) : Prop :=
 match fv with
 | .func (.func f) first captured => Callable P f ∧ CallsIn Wd 0 P f (first.toList ++ args ++ captured.toList).toArray w R
 | .func (.yield l) first _ => ∃ fn tmps assign body, (Instr.yield l (first ++ args.toArray)).run P w = .ok (.round l fn tmps assign body) w ∧ RoundIn Wd 0 P l fn tmps assign body w R
 | _ => False

theorem CallV.mono {fv : Value} {args : List Value} {R R' : Ending → World → Prop} (h : CallV P fv args w R) (hr : ∀ e w', R e w' → R' e w') : CallV P fv args w R' := by
 unfold CallV at h ⊢
 split
 ·simp only at h; exact ⟨h.1, h.2.mono hr⟩
 ·simp only at h; obtain ⟨fn, tmps, as, bo, h1, h2⟩ := h; exact ⟨fn, tmps, as, bo, h1, h2.mono hr⟩
 ·rename_i h1 h2
  split at h
  ·exact (h1 _ _ _ rfl).elim
  ·exact (h2 _ _ _ rfl).elim
  ·exact h.elim

theorem CallsIn.anyRound {f : FuncId} {args : Array Value} (hF : F.fn = Wd.fn) (hd : F.depth = none) (ha : F.alive = false) (h : CallsIn Wd 0 P f args w R) : CallsIn F 0 P f args w R := by
 obtain ⟨fn, dep, al, ro⟩ := F
 simp only at hF hd ha
 subst hF; subst hd; subst ha
 exact h
theorem RoundIn.anyRound {k : Nat} {f : FuncId} {tmps : Array Value} {as bo : Code} (hF : F.fn = Wd.fn) (hd : F.depth = none) (ha : F.alive = false) (h : RoundIn Wd 0 P k f tmps as bo w R) : RoundIn F 0 P k f tmps as bo w R := by
 obtain ⟨fn, dep, al, ro⟩ := F
 simp only at hF hd ha
 subst hF; subst hd; subst ha
 exact h

/-- A call of a function value in a walk. -/
theorem OpR_callV (hF : F.fn = Wd.fn) (hd : F.depth = none) (hal : F.alive = false) {x : Operand} {args : Array Operand} {ts : Array TypeId} {fv : Value} {vs : List Value}
  (ho : o.op = .call { callee := .value x, args, argTypes := ts }) (hx : ev l x = some fv) (ha : evs l args.toList = some vs)
  (h : CallV P fv vs w fun e w' => ∃ v, e = .returned v ∧ K v w') : OpR F P N ds o l w Q K := by
 unfold CallV at h
 split at h
 ·rename_i f first captured
  exact OpR_call h.1 (by intro f; rw [hF]; trivial) hd ho hx ha rfl (CallsIn.anyRound hF hd hal h.2)
 ·rename_i k first captured
  obtain ⟨fn, tmps, as, bo, h1, h2⟩ := h
  intro a haa
  unfold Oper.wpIn
  refine ⟨fun f _ => by rw [hF]; trivial, ?_⟩
  have hargs : args.map a.eval = vs.toArray := by apply Array.ext'; simpa using evs_spec haa ha
  rw [Oper.semAt_eq _ _ _ (fun c e => by rw [ho] at e; cases e)]
  have hrun : (execOp a.eval o).run P w = .ok (.round k fn tmps as bo) w := by
   simp only [execOp, ho, Sem.run_bind, resolve, haa.ev hx, Deferred.ofValue, Sem.run_pure, Result.andThen_ok, invoke, hargs]
   exact h1
  rw [hrun]
  refine ⟨fun h => (by rw [hd] at h; cases h), ?_⟩
  refine RoundIn.mono (RoundIn.anyRound hF hd hal h2) fun e w' ⟨v, he, hk⟩ => ?_
  subst he
  exact ⟨v, rfl, hk⟩
 ·exact h.elim

/-- The contract of an iterator that comes to the list xs. -/
def SeqC {α : Type} (P : Program) (itf : FuncId) (caps : Array Value) (encs : α → List Value) (xs : List α) (g : G) : Prop :=
 ∀ (g1 : G), g.le g1 → ∀ (yv : Value) (J Jx : List α → G → Prop), (∀ pre g g', Fr0 g g' → J pre g → J pre g') → (∀ pre g g', Fr0 g g' → Jx pre g → Jx pre g') →
  (∀ pre x rest g2, xs = pre ++ x :: rest → g1.le g2 → J pre g2 → CallV P yv (encs x) g2.w fun e w' => ∃ g3 b, g3.w = w' ∧ e = .returned (.bool b) ∧ g2.le g3 ∧ (b = true → J (pre ++ [x]) g3) ∧ (b = false → Jx (pre ++ [x]) g3)) →
  J [] g1 → CallsIn Wd 0 P itf (yv :: caps.toList).toArray g1.w fun e w' => ∃ g2 v, g2.w = w' ∧ e = .returned v ∧ g1.le g2 ∧ (J xs g2 ∨ ∃ pre, pre <+: xs ∧ Jx pre g2)

theorem SeqC.mono {α : Type} {itf : FuncId} {caps : Array Value} {encs : α → List Value} {xs : List α} {g g' : G} (h : SeqC P itf caps encs xs g) (hle : g.le g') : SeqC P itf caps encs xs g' :=
 fun g1 h1 => h g1 (hle.trans h1)

def parEnv : List Tmp → List Value → Env → Env
 | t :: ts, v :: vs, l => parEnv ts vs ((t, v) :: l)
 | _, _, l => l

theorem Fr_par : ∀ (ts : List Tmp) (vs : List Value) (l : Env) (tm : Array Value), (ts.all fun t => Nat.blt t N) = true → Fr N [] l { tmps := tm, defers := [] } →
  Fr N [] (parEnv ts vs l) { tmps := (ts.zip vs).foldl (fun tmps (t, a) => tmps.setIfInBounds t a) tm, defers := [] }
 | [], vs, l, tm, _, h => by cases vs <;> exact h
 | t :: ts, [], l, tm, _, h => h
 | t :: ts, v :: vs, l, tm, hb, h => by
  simp only [List.all_cons, Bool.and_eq_true] at hb
  refine Fr_par ts vs ((t, v) :: l) (tm.setIfInBounds t v) hb.2 ?_
  exact h.put (d := some t) hb.1 v

/-- The record of a loop, and the block for its rounds' deferred calls. -/
def recO (fn : FuncId) (tmps : Array Value) (ps : Array Tmp) (assign body : Code) (D : Nat) (st : LoopState) (pend : Option Code) : Obj :=
 .loop { state := st, pending := pend, fn, tmps, params := ps, assign, body, defers := D }
abbrev defO : Obj := .deferred (some [])

/-- How a round is left. -/
def roundQ (I : List Ent → G → Prop) (Ix : Code → List Ent → G → Prop) (g0 gr : G) (lp D : Nat) (ro : LoopState → Obj) : Exit → Act → World → Prop
 | .normal, _, w => ∃ L' g', g'.w = w ∧ St g0 g' (.obj lp (ro .busy) :: .obj D defO :: L') ∧ gr.le g' ∧ I L' g'
 | .ret, _, w => ∃ L' g', g'.w = w ∧ St g0 g' (.obj lp (ro .busy) :: .obj D defO :: L') ∧ gr.le g' ∧ Ix .ret L' g'
 | .exit id, _, w => ∃ L' g', g'.w = w ∧ St g0 g' (.obj lp (ro .busy) :: .obj D defO :: L') ∧ gr.le g' ∧ Ix (.exit id) L' g'
 | _, _, _ => False

def G.po (g : G) (b : Nat) (o : Obj) : G := ⟨g.w.putObj b o, g.im, fun x h => by have := g.lt x h; simpa using this⟩

theorem putObj_grown (w : World) (b : Nat) (o : Obj) : w.grownBy (w.putObj b o) (some b) :=
 ⟨rfl, rfl, rfl, by simp, fun k _ hk => World.putObj_heap_other (fun e => hk (congrArg some e))⟩

theorem St.po {i b : Nat} {o o' : Obj} (hs : St g0 g L) (hi : L[i]? = some (.obj b o)) : St g0 (g.po b o') (L.set i (.obj b o')) ∧ g.le (g.po b o') := by
 have hh := (hs.own i _ hi).2.1
 exact hs.chg hi (putObj_grown _ _ _) (fun _ _ => Iff.rfl) ⟨(hs.own i _ hi).1, World.putObj_heap_same (Array.getElem?_eq_some_iff.1 hh).1, (hs.own i _ hi).2.2⟩ (fun b' hb' => .inl hb')

theorem W_range {α : Type} {itf : FuncId} {caps : Array Value} {encs : α → List Value} {xs : List α} {f : Operand} {ps : Array Tmp} {assign body : Code}
  (hs : St g0 g L) (hf : ev l f = some (.func (.func itf) #[] caps)) (hcall : Callable P itf) (hseq : SeqC P itf caps encs xs g) (hps : (ps.toList.all fun t => Nat.blt t N) = true) (hen : ∀ x, (encs x).length = ps.size)
  (I : List α → List Ent → G → Prop) (Ix : Code → List α → List Ent → G → Prop) (hI : ∀ pre L g g', g.le g' → I pre L g → I pre L g') (hIx : ∀ c pre L g g', g.le g' → Ix c pre L g → Ix c pre L g')
  (h0 : I [] L g) (la : α → Env)
  (hassign : ∀ x ro w, W { Wd with round := some ro } P N [] assign (Exit.then (fun a w' => w' = w ∧ Fr N [] (la x) a) (fun _ _ _ => False)) (parEnv ps.toList (encs x) l) w)
  (hbody : ∀ lp D ro pre x rest gr Lr, xs = pre ++ x :: rest → g.le gr → St g0 gr (.obj lp (ro .busy) :: .obj D defO :: Lr) → I pre Lr gr →
   W { Wd with round := some lp } P N [] body (roundQ (I (pre ++ [x])) (fun c => Ix c (pre ++ [x])) g0 gr lp D ro) (la x) gr.w)
  (hend : ∀ lp D o Lr ge, g.le ge → St g0 ge (.obj lp o :: .obj D defO :: Lr) → I xs Lr ge → ∀ a, Fr N (⟨.collected D, #[]⟩ :: ds) l a → Q .normal a ge.w)
  (hjump : ∀ c lp D o pre Lr ge, pre <+: xs → g.le ge → St g0 ge (.obj lp o :: .obj D defO :: Lr) → Ix c pre Lr ge → W Wd P N (⟨.collected D, #[]⟩ :: ds) c Q l ge.w) :
  W Wd P N ds (.rangeFunc f ps assign body) Q l g.w := by
 intro a ha
 refine wpIn_rangeFunc fun fn _ => ?_
 let ro : LoopState → Obj := fun st => recO fn a.tmps ps assign body g.w.heap.size st none
 have hs1 := hs.al defO
 have hs2 := hs1.1.al (ro .ready)
 have hsz : (g.al defO).w.heap.size = g.w.heap.size + 1 := by simp [G.al]
 let g2 := (g.al defO).al (ro .ready)
 have hle2 : g.le g2 := hs1.2.trans hs2.2
 refine ⟨g.w.heap.size + 1, [⟨.collected g.w.heap.size, #[]⟩], g2.w, ⟨.fn (.func itf) caps, #[.func (.yield (g.w.heap.size + 1)) #[] #[]]⟩, g2.w, itf, (.func (.yield (g.w.heap.size + 1)) #[] #[] :: caps.toList).toArray, g2.w, ?_, ?_, fun _ _ => trivial, ?_, fun h => (by cases h), ?_⟩
 ·exact run_enterLoop_outer fn a.tmps ps assign body
 ·simp only [resolve, ha.ev hf, Deferred.ofValue]
  simp [Act.eval, g2]
 ·have e : #[Value.func (.yield (g.w.heap.size + 1)) #[] #[]] ++ caps = (.func (.yield (g.w.heap.size + 1)) #[] #[] :: caps.toList).toArray := by apply Array.ext'; simp
  rw [← e]
  exact run_callFunc hcall _
 ·-- the iterator's contract, with what holds between the rounds
  have hs2' : St g0 g2 (.obj (g.w.heap.size + 1) (ro .ready) :: .obj g.w.heap.size defO :: L) := by
   have := hs2.1
   rw [hsz] at this
   exact this
  refine CallsIn.mono (hseq g2 hle2 (.func (.yield (g.w.heap.size + 1)) #[] #[])
   (fun pre g' => g.le g' ∧ ∃ Lr, St g0 g' (.obj (g.w.heap.size + 1) (ro .ready) :: .obj g.w.heap.size defO :: Lr) ∧ I pre Lr g')
   (fun pre g' => g.le g' ∧ ∃ c Lr, St g0 g' (.obj (g.w.heap.size + 1) (recO fn a.tmps ps assign body g.w.heap.size .done (some c)) :: .obj g.w.heap.size defO :: Lr) ∧ Ix c pre Lr g')
   (fun pre ga gb hf ⟨h1, Lr, h2, h3⟩ => ⟨h1.trans hf.le, Lr, h2.call hf, hI _ _ _ _ hf.le h3⟩)
   (fun pre ga gb hf ⟨h1, c, Lr, h2, h3⟩ => ⟨h1.trans hf.le, c, Lr, h2.call hf, hIx _ _ _ _ _ hf.le h3⟩) ?_ ⟨hle2, L, hs2', hI _ _ _ _ hle2 h0⟩) ?_
  ·-- one round
   rintro pre x rest gp hxs hlep ⟨hleg, Lr, hst, hi⟩
   have hrec : gp.w.heap[g.w.heap.size + 1]? = some (ro .ready) := (hst.own 0 _ rfl).2.1
   refine ⟨fn, _, assign, body, run_yield hrec (by simpa [recO] using hen x), ?_⟩
   refine roundIn_of_wpIn trivial ?_
   have hfr : Fr N [] (parEnv ps.toList (encs x) l) { tmps := (ps.zip (#[] ++ (encs x).toArray)).foldl (fun tmps (x : Nat × Value) => tmps.setIfInBounds x.1 x.2) a.tmps, defers := [] } := by
    have h := Fr_par (N := N) ps.toList (encs x) l a.tmps hps ⟨rfl, ha.size, ha.get⟩
    have e : (ps.zip (#[] ++ (encs x).toArray)).foldl (fun tmps (x : Nat × Value) => tmps.setIfInBounds x.1 x.2) a.tmps = (ps.toList.zip (encs x)).foldl (fun tmps (x : Nat × Value) => tmps.setIfInBounds x.1 x.2) a.tmps := by
     rw [← Array.foldl_toList]; simp
    rw [e]
    exact h
   refine Go.wpIn_mono (hassign x (g.w.heap.size + 1) gp.w _ hfr) fun e a1 w1 he => ?_
   cases e with
   | normal =>
    obtain ⟨rfl, hfr1⟩ := he
    have hb := hst.po (i := 0) (o' := ro .busy) rfl
    refine ⟨(gp.po (g.w.heap.size + 1) (ro .busy)).w, run_beginRound hrec rfl, ?_⟩
    have hst' : St g0 (gp.po (g.w.heap.size + 1) (ro .busy)) (.obj (g.w.heap.size + 1) (ro .busy) :: .obj g.w.heap.size defO :: Lr) := hb.1
    refine Go.wpIn_mono (hbody _ _ ro pre x rest _ Lr hxs (hleg.trans hb.2) hst' (hI _ _ _ _ hb.2 hi) a1 hfr1) fun e a2 w2 he => ?_
    cases e with
    | normal =>
     obtain ⟨L', g', rfl, hst2, hle', hi'⟩ := he
     have hrec2 : g'.w.heap[g.w.heap.size + 1]? = some (ro .busy) := (hst2.own 0 _ rfl).2.1
     have hp := hst2.po (i := 0) (o' := ro .ready) rfl
     refine ⟨_, _, run_endRound none hrec2, g'.po (g.w.heap.size + 1) (ro .ready), true, rfl, rfl, (hb.2.trans hle').trans hp.2, fun _ => ⟨((hleg.trans hb.2).trans hle').trans hp.2, L', hp.1, hI _ _ _ _ hp.2 hi'⟩, fun h => (by cases h)⟩
    | ret =>
     obtain ⟨L', g', rfl, hst2, hle', hi'⟩ := he
     have hrec2 : g'.w.heap[g.w.heap.size + 1]? = some (ro .busy) := (hst2.own 0 _ rfl).2.1
     have hp := hst2.po (i := 0) (o' := recO fn a.tmps ps assign body g.w.heap.size .done (some .ret)) rfl
     refine ⟨_, _, run_endRound (some .ret) hrec2, g'.po (g.w.heap.size + 1) (recO fn a.tmps ps assign body g.w.heap.size .done (some .ret)), false, rfl, rfl, (hb.2.trans hle').trans hp.2, fun h => (by cases h),
      fun _ => ⟨((hleg.trans hb.2).trans hle').trans hp.2, .ret, L', hp.1, hIx _ _ _ _ _ hp.2 hi'⟩⟩
    | exit id =>
     obtain ⟨L', g', rfl, hst2, hle', hi'⟩ := he
     have hrec2 : g'.w.heap[g.w.heap.size + 1]? = some (ro .busy) := (hst2.own 0 _ rfl).2.1
     have hp := hst2.po (i := 0) (o' := recO fn a.tmps ps assign body g.w.heap.size .done (some (.exit id))) rfl
     refine ⟨_, _, run_endRound (some (.exit id)) hrec2, g'.po (g.w.heap.size + 1) (recO fn a.tmps ps assign body g.w.heap.size .done (some (.exit id))), false, rfl, rfl, (hb.2.trans hle').trans hp.2, fun h => (by cases h),
      fun _ => ⟨((hleg.trans hb.2).trans hle').trans hp.2, .exit id, L', hp.1, hIx _ _ _ _ _ hp.2 hi'⟩⟩
    | goto t => exact he.elim
    | panic c => exact he.elim
    | outgrown => exact he.elim
   | exit id => exact he.elim
   | goto t => exact he.elim
   | ret => exact he.elim
   | panic c => exact he.elim
   | outgrown => exact he.elim
  ·-- the iterator has ended
   rintro e w' ⟨ge, v, rfl, rfl, hle', h⟩
   have hfra : Fr N (⟨.collected g.w.heap.size, #[]⟩ :: ds) l { a with defers := [⟨.collected g.w.heap.size, #[]⟩] ++ a.defers } := ⟨by simp [ha.defers], ha.size, ha.get⟩
   rcases h with ⟨hle, Lr, hst, hi⟩ | ⟨pre, hpre, hle, c, Lr, hst, hi⟩
   ·have hrec : ge.w.heap[g.w.heap.size + 1]? = some (ro .ready) := (hst.own 0 _ rfl).2.1
    have hp := hst.po (i := 0) (o' := recO fn a.tmps ps assign body g.w.heap.size .exhausted none) rfl
    exact ⟨none, _, run_endLoop hrec (by simp), hend _ _ _ Lr (ge.po _ _) (hle.trans hp.2) hp.1 (hI _ _ _ _ hp.2 hi) _ hfra⟩
   ·have hrec : ge.w.heap[g.w.heap.size + 1]? = some (recO fn a.tmps ps assign body g.w.heap.size .done (some c)) := (hst.own 0 _ rfl).2.1
    have hp := hst.po (i := 0) (o' := recO fn a.tmps ps assign body g.w.heap.size .exhausted (some c)) rfl
    exact ⟨some c, _, run_endLoop hrec (by simp), hjump c _ _ _ pre Lr (ge.po _ _) hpre (hle.trans hp.2) hp.1 (hIx _ _ _ _ _ hp.2 hi) _ hfra⟩

/-! ### Leaving a function in which such a loop stood -/

theorem leavesM {fn : Func} {tmps : Array Value} {D i : Nat} {ds : List Deferred} (hs : St g0 g L) (hi : L[i]? = some (.obj D defO))
  (h : LeavesInM Wd 0 P fn tmps R ds .returning (g.po D (.deferred none)).w) : LeavesInM Wd 0 P fn tmps R (⟨.collected D, #[]⟩ :: ds) .returning g.w :=
 ⟨by simp, .inl ⟨D, _, rfl, run_takeDeferred (hs.own i _ hi).2.1, h⟩⟩

end Go.K

/- '&&' and '||': the operations behind a guard, walked once; both ways meet at the choice. And small helps. -/
namespace Go.K
open Go Go.RowKit

variable {F : Fence} {P : Program} {N : Nat} {ds : List Deferred} {l l' : Env} {a : Act} {w : World} {Q : Exit → Act → World → Prop} {ops : Array Oper} {os : List Oper} {o : Oper}
variable {g0 g : G} {L : List Ent} {K : Value → World → Prop}

/-- The first entry of a slot, with another value. -/
def rep (d : Nat) (v : Value) : Env → Env
 | [] => []
 | (k, u) :: r => bif Nat.beq k d then (k, v) :: r else (k, u) :: rep d v r

theorem lk_rep {d : Nat} {v : Value} : ∀ (l : Env) (t : Nat) (u : Value), lk (rep d v l) t = some u → (t = d ∧ u = v) ∨ (t ≠ d ∧ lk l t = some u)
 | [], t, u, h => by simp [rep, lk] at h
 | (k, x) :: r, t, u, h => by
  simp only [rep] at h
  cases hk : Nat.beq k d with
  | true =>
   have hkd := Nat.eq_of_beq_eq_true hk
   subst hkd
   rw [hk] at h
   simp only [cond_true] at h
   by_cases e : k = t
   ·subst e
    rw [lk_cons_same] at h
    exact .inl ⟨rfl, (Option.some.inj h).symm⟩
   ·rw [lk_cons_other _ _ e] at h
    exact .inr ⟨fun q => e q.symm, by rw [lk_cons_other _ _ e]; exact h⟩
  | false =>
   rw [hk] at h
   simp only [cond_false] at h
   by_cases e : k = t
   ·subst e
    rw [lk_cons_same] at h
    refine .inr ⟨fun q => ?_, by rw [lk_cons_same]; exact h⟩
    subst q
    simp at hk
   ·rw [lk_cons_other _ _ e] at h
    rcases lk_rep r t u h with h' | ⟨h1, h2⟩
    ·exact .inl h'
    ·exact .inr ⟨h1, by rw [lk_cons_other _ _ e]; exact h2⟩

theorem lk_rep_of {d : Nat} {v x : Value} : ∀ (l : Env), lk l d = some x → lk (rep d v l) d = some v
 | [], h => by simp [lk] at h
 | (k, y) :: r, h => by
  simp only [rep]
  cases hk : Nat.beq k d with
  | true =>
   have := Nat.eq_of_beq_eq_true hk
   subst this
   simp [lk_cons_same]
  | false =>
   have hne : k ≠ d := fun q => by subst q; simp at hk
   rw [lk_cons_other _ _ hne] at h
   simp only [cond_false]
   rw [lk_cons_other _ _ hne]
   exact lk_rep_of r h
theorem lk_rep_other {d : Nat} {v : Value} : ∀ (l : Env) (t : Nat), t ≠ d → lk (rep d v l) t = lk l t
 | [], t, _ => rfl
 | (k, y) :: r, t, h => by
  simp only [rep]
  cases hk : Nat.beq k d with
  | true =>
   have := Nat.eq_of_beq_eq_true hk
   subst this
   simp only [cond_true]
   rw [lk_cons_other _ _ (fun q => h q.symm), lk_cons_other _ _ (fun q => h q.symm)]
  | false =>
   simp only [cond_false]
   by_cases e : k = t
   ·subst e; rw [lk_cons_same, lk_cons_same]
   ·rw [lk_cons_other _ _ e, lk_cons_other _ _ e]; exact lk_rep_other r t h

theorem Fr.rep {d : Nat} {v : Value} (ha : Fr N ds l a) (h : lk l d = some v) {v' : Value} (e : v = v') : Fr N ds (rep d v' l) a := by
 refine ⟨ha.defers, ha.size, fun t u hu => ?_⟩
 rcases lk_rep l t u hu with ⟨rfl, rfl⟩ | ⟨_, h2⟩
 ·subst e; exact ha.get _ _ h
 ·exact ha.get _ _ h2
theorem Fr.unrep {d : Nat} {v v' : Value} (ha : Fr N ds (Go.K.rep d v' l) a) (h : lk l d = some v) (e : v = v') : Fr N ds l a := by
 refine ⟨ha.defers, ha.size, fun t u hu => ?_⟩
 by_cases htd : t = d
 ·subst htd
  rw [h] at hu
  obtain rfl := Option.some.inj hu
  subst e
  exact ha.get _ _ (lk_rep_of l h)
 ·exact ha.get _ _ (by rw [lk_rep_other l t htd]; exact hu)

/-- All operations of a list are passed over. -/
def passed (ops : Array Oper) : Env → List Oper → Option Env
 | l, [] => some l
 | l, o :: os =>
  match gdx ops l o.guard, o.dst with
  | some false, some d => passed ops ((d, undef) :: l) os
  | _, _ => none

theorem passed_run (hF : ∀ f, F.fn f) : ∀ (o1 : List Oper) {l l' : Env} {a : Act} {w : World}, passed ops l o1 = some l' → (o1.all fun o => dOk N o.dst) = true → Fr N ds l a →
  (∀ a', Fr N ds l' a' → (∀ t, (∀ o ∈ o1, o.dst ≠ some t) → a'.tmps[t]? = a.tmps[t]?) → wpListIn F 0 P ops Q os a' w) → wpListIn F 0 P ops Q (o1 ++ os) a w
 | [], l, l', a, w, hp, _, ha, h => by
  simp only [passed, Option.some.injEq] at hp
  subst hp
  exact h a ha fun _ _ => rfl
 | o :: o1, l, l', a, w, hp, hd, ha, h => by
  simp only [passed] at hp
  split at hp
  ·rename_i d hg hod
   simp only [List.all_cons, Bool.and_eq_true] at hd
   have hput := ha.put hd.1 undef
   rw [hod] at hput
   simp only [List.cons_append, wpListIn, gdx_spec hg ha]
   refine ⟨fun f _ => hF f, ?_⟩
   rw [hod]
   refine passed_run hF o1 hp hd.2 hput fun a' ha' hk => h a' ha' fun t ht => ?_
   rw [hk t (fun o' ho' => ht o' (by simp [ho']))]
   simp only [Act.put]
   rw [Array.getElem?_setIfInBounds_ne (fun e => ht o (by simp) (by rw [hod, e]))]
  ·cases hp

theorem WL_seg (n : Nat) {want b x : Bool} {d dp da : Nat} {ty : TypeId} {pos : String} {af : Array Edge} {gp : Option (Nat × Bool)} {A B : Operand} (hF : ∀ f, F.fn f) {l1 : Env}
  (hpick : os[n]? = some ⟨some dp, .pick (.tmp d) A B, ty, pos, af, gp⟩) (hl : lk l d = some (.bool b)) (hpd : Nat.blt dp N = true) (hgp : gdx ops l gp = some true)
  (hAB : (want = true ∧ A = .tmp da ∧ B = .const (.bool false)) ∨ (want = false ∧ A = .const (.bool true) ∧ B = .tmp da)) (hda : lk l da = none)
  (hpass : passed ops (rep d (.bool (!want)) l) (os.take n) = some l1) (hok : ((os.take n).all fun o => dOk N o.dst) = true) (hfresh : ((os.take n).all fun o => match o.dst with | some t => (lk l t).isNone | none => false) = true)
  (h1 : b = want → ∀ Q' : Exit → Act → World → Prop, (∀ g' a, Fr0 g g' → Fr N ds ((da, .bool x) :: rep d (.bool want) l) a → Q' .normal a g'.w) → WL F P N ds ops Q' (os.take n) (rep d (.bool want) l) g.w)
  (k : ∀ g', Fr0 g g' → WL F P N ds ops Q (os.drop (n + 1)) ((dp, .bool (bif want then b && x else b || x)) :: l) g'.w) : WL F P N ds ops Q os l g.w := by
 have hos : os = os.take n ++ (⟨some dp, .pick (.tmp d) A B, ty, pos, af, gp⟩ :: os.drop (n + 1)) := by
  have hlt := (List.getElem?_eq_some_iff.1 hpick).1
  have h2 := (List.getElem?_eq_some_iff.1 hpick).2
  rw [← h2, ← List.drop_eq_getElem_cons hlt, List.take_append_drop]
 intro a ha
 have hchoice : ∀ (g' : G) (a' : Act), Fr0 g g' → Fr N ds l a' → (execOp a'.eval ⟨some dp, .pick (.tmp d) A B, ty, pos, af, gp⟩).run P g'.w = .ok (.value (.bool (bif want then b && x else b || x))) g'.w →
   wpListIn F 0 P ops Q (⟨some dp, .pick (.tmp d) A B, ty, pos, af, gp⟩ :: os.drop (n + 1)) a' g'.w := by
  intro g' a' hf ha' hrun
  simp only [wpListIn, gdx_spec (o := ⟨some dp, .pick (.tmp d) A B, ty, pos, af, gp⟩) hgp ha', if_true]
  unfold Oper.wpIn
  refine ⟨fun f _ => hF f, ?_⟩
  rw [Oper.semAt_eq _ _ _ (fun c e => by cases e), hrun]
  exact k g' hf _ (ha'.put (d := some dp) hpd _)
 by_cases hb : b = want
 ·subst hb
  have hseg := h1 rfl (Exit.then (fun a' w' => ∃ g', Fr0 g g' ∧ g'.w = w' ∧ Fr N ds ((da, .bool x) :: rep d (.bool b) l) a') Q) (fun g' a' hf ha' => ⟨g', hf, rfl, ha'⟩)
  refine WL_cut _ hos (fun a' ha' => hseg a' (ha'.rep hl rfl)) ?_ a ha
  rintro a' _ ⟨g', hf, rfl, ha'⟩
  have hdav : a'.eval (.tmp da) = .bool x := ha'.ev (x := .tmp da) (lk_cons_same _ _ _)
  have ha2 : Fr N ds l a' := by
   refine Fr.unrep (d := d) (v := .bool b) (v' := .bool b) ⟨ha'.defers, ha'.size, fun t u hu => ?_⟩ hl rfl
   refine ha'.get t u ?_
   rw [lk_cons_other _ _ (fun e => ?_)]
   ·exact hu
   ·subst e
    rcases lk_rep l da u hu with ⟨h1, _⟩ | ⟨_, h2⟩
    ·rw [h1, hl] at hda; cases hda
    ·rw [h2] at hda; cases hda
  refine hchoice g' a' hf ha2 ?_
  have hdv : a'.eval (.tmp d) = .bool b := ha2.ev (x := .tmp d) hl
  rcases hAB with ⟨rfl, rfl, rfl⟩ | ⟨rfl, rfl, rfl⟩
  ·simp only [execOp, hdv, hdav, asBool, Sem.run_bind, Sem.run_pure, Result.andThen_ok]; rfl
  ·simp only [execOp, hdv, hdav, asBool, Sem.run_bind, Sem.run_pure, Result.andThen_ok]; rfl
 ·have hbw : b = !want := (show ∀ b want : Bool, ¬ b = want → b = !want from fun b want => by cases b <;> cases want <;> simp) b want hb
  rw [hos]
  refine passed_run hF (os.take n) hpass hok (ha.rep hl (by rw [hbw])) fun a' ha' hk => ?_
  have ha2 : Fr N ds l a' := by
   have hdef : a'.defers = ds ∧ a'.tmps.size = N := ⟨ha'.defers, ha'.size⟩
   refine ⟨hdef.1, hdef.2, fun t u hu => ?_⟩
   rw [hk t (fun o ho e => ?_)]
   ·exact ha.get t u hu
   ·have := (List.all_eq_true.1 hfresh) o ho
    simp only [e] at this
    rw [hu] at this
    cases this
  refine hchoice g a' (Fr0.refl _) ha2 ?_
  have hdv : a'.eval (.tmp d) = .bool b := ha2.ev (x := .tmp d) hl
  rcases hAB with ⟨rfl, rfl, rfl⟩ | ⟨rfl, rfl, rfl⟩
  ·subst hbw
   simp only [execOp, hdv, asBool, Sem.run_bind, Sem.run_pure, Result.andThen_ok]; rfl
  ·subst hbw
   simp only [execOp, hdv, asBool, Sem.run_bind, Sem.run_pure, Result.andThen_ok]; rfl

/-! ### Small helps -/

theorem kI {t : Nat} {k : IntKind} {m n : Int} (h : lk l t = some (.int k m)) (e : m = n) : lk l t = some (.int k n) := e ▸ h
theorem kB {t : Nat} {m n : Bool} (h : lk l t = some (.bool m)) (e : m = n) : lk l t = some (.bool n) := e ▸ h
theorem wr {n : Int} (h1 : -9223372036854775808 ≤ n) (h2 : n ≤ 9223372036854775807) : IntKind.i64.wrap n = n := by
 exact IntWalk.i64_in n ⟨h1, h2⟩

/-- A slot's value said otherwise. -/
theorem WL_re {t : Nat} {u : Value} (v : Value) (hl : lk l t = some u) (e : u = v) (h : WL F P N ds ops Q os ((t, v) :: l) w) : WL F P N ds ops Q os l w := by
 refine fun a ha => h a (ha.sub fun s x hs => ?_)
 by_cases q : t = s
 ·subst q; rw [lk_cons_same] at hs; rw [hl, e]; exact hs
 ·rw [lk_cons_other _ _ q] at hs; exact hs
end Go.K

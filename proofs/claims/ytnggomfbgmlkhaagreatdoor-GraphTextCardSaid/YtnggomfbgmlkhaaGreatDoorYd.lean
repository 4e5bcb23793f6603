/- Drawn regions in which something owned is changed, scopes, division, shifts. -/
import Derived.Test.YtnggomfbgmlkhaaGreatDoorYc
import Derived.Scope

/- A region that draws its order, in which one operation eats facts that are the region's own (a row that it goes on to append to). -/
namespace Go.K
open Go Go.RowKit

variable {F : Fence} {P : Program} {N : Nat} {ds : List Deferred} {ops : Array Oper} {Q : Exit → Act → World → Prop} {φs : List Fact} {l0 : Env} {gd : G}

def Soft (φ : Fact) : Prop := ∀ v g g', g.le g' → φ.p v g → φ.p v g'
def SoftL (own : List Nat) : Nat → List Fact → Prop
 | _, [] => True
 | i, φ :: r => (own.contains i = true ∨ Soft φ) ∧ SoftL own (i + 1) r
theorem soft_eq (x : Value) : Soft (Fact.eq x) := fun _ _ _ _ h => h
theorem soft_rs {α : Type} [El α] (xs : List α) : Soft (Fact.rs xs) := fun _ _ _ hle h => Rs.mono hle h
theorem soft_any : Soft Fact.any := fun _ _ _ _ h => h
theorem softN {own : List Nat} {i : Nat} : SoftL own i [] := trivial
theorem softC {own : List Nat} {i : Nat} {φ : Fact} {r : List Fact} (h : Soft φ) (h2 : SoftL own (i + 1) r) : SoftL own i (φ :: r) := ⟨.inr h, h2⟩
theorem softE {own : List Nat} {i : Nat} {x : Value} {r : List Fact} (h2 : SoftL own (i + 1) r) : SoftL own i (Fact.eq x :: r) := ⟨.inr (soft_eq x), h2⟩
theorem softO {own : List Nat} {i : Nat} {φ : Fact} {r : List Fact} (h : own.contains i = true) (h2 : SoftL own (i + 1) r) : SoftL own i (φ :: r) := ⟨.inl h, h2⟩
theorem SoftL.at {own : List Nat} : ∀ {φs : List Fact} {i : Nat}, SoftL own i φs → ∀ j, own.contains (i + j) = true ∨ Soft (fct φs j)
 | [], i, _, j => .inr (by unfold fct; simpa using soft_any)
 | φ :: r, i, h, 0 => by simpa [fct] using h.1
 | φ :: r, i, h, j + 1 => by
  have := SoftL.at (i := i + 1) h.2 j
  rw [show i + (j + 1) = i + 1 + j from by omega]
  simpa [fct] using this

/-- What an operation's effect may be: the eater may change what is the region's own. -/
def Eff (e : Nat) (gd : G) (i : Nat) (g g' : G) : Prop := if i = e then g.le g' ∧ Fr0 gd g' else Fr0 g g'

def StepE (F : Fence) (P : Program) (N : Nat) (ds : List Deferred) (ops : Array Oper) (Q : Exit → Act → World → Prop) (φs : List Fact) (l0 : Env) (gd : G) (e i : Nat) (o : Oper) : Prop :=
 ∀ g', Fr0 gd g' → QA φs g' (needs ops o) l0 fun env =>
  match gdx ops env o.guard with
  | some true => OpR F P N ds o env g'.w Q fun v w' => ∃ g'', g''.w = w' ∧ Eff e gd i g' g'' ∧ (fct φs i).p v g''
  | some false => (fct φs i).p undef g'
  | none => False
def StepsE (F : Fence) (P : Program) (N : Nat) (ds : List Deferred) (ops : Array Oper) (Q : Exit → Act → World → Prop) (φs : List Fact) (l0 : Env) (gd : G) (e : Nat) : Nat → List Oper → Prop
 | _, [] => True
 | i, o :: os => StepE F P N ds ops Q φs l0 gd e i o ∧ StepsE F P N ds ops Q φs l0 gd e (i + 1) os
/-- An own fact is read by its eater alone. -/
def ownOk (ops : Array Oper) (own : List Nat) (e m : Nat) (outs : List (Nat × Nat)) : Bool :=
 outs.all (fun p => !own.contains p.1) && (List.range m).all (fun i => i == e || (match ops[i]? with | some o => (needs ops o).all (fun p => !own.contains p.1) | none => true))

theorem StepsE.at {e : Nat} : ∀ {l : List Oper} {i0 : Nat}, StepsE F P N ds ops Q φs l0 gd e i0 l → ∀ (j : Nat) o, l[j]? = some o → StepE F P N ds ops Q φs l0 gd e (i0 + j) o
 | [], _, _, j, o, h => by simp at h
 | x :: l, i0, hs, 0, o, h => by
  simp only [List.getElem?_cons_zero, Option.some.injEq] at h
  subst h
  exact hs.1
 | x :: l, i0, hs, j + 1, o, h => by
  simp only [List.getElem?_cons_succ] at h
  have := StepsE.at (i0 := i0 + 1) hs.2 j o h
  rw [show i0 + (j + 1) = i0 + 1 + j from by omega]
  exact this

theorem W_drawE {id : Nat} {g : G} (hF : ∀ f, F.fn f) (hm : P.follows .mixedOrders = true) (φs : List Fact) (m : Nat) (outs : List (Nat × Nat)) (own : List Nat) (e : Nat) (hok : drawOk N ops l0 m = true) (hown : ownOk ops own e m outs = true) (hsoft : SoftL own 0 φs)
  (houts : outs.all (fun p => Nat.blt p.1 m && (dstOf ops p.1 == some p.2)) = true)
  (hsteps : StepsE F P N ds ops Q φs l0 g.dr e 0 (ops.toList.take m))
  (hend : ∀ g', Fr0 g.dr g' → QA φs g' outs l0 fun env => WL F P N ds ops Q (ops.toList.drop m) env g'.w) : W F P N ds (.region id ops true) Q l0 g.w := by
 intro a ha
 simp only [drawOk, Bool.and_eq_true, List.all_eq_true, List.mem_range] at hok
 obtain ⟨⟨⟨c1, c2⟩, c3⟩, c4⟩ := hok
 have c4 : m ≤ ops.size := Nat.le_of_ble_eq_true c4
 have k1 : ∀ i o, ops[i]? = some o → ∀ j ∈ edg o, j < i := by
  intro i o ho j hj
  have := c1 i (Array.getElem?_eq_some_iff.1 ho).1
  rw [ho] at this
  have := (List.all_eq_true.1 this) j hj
  simpa [Nat.blt_eq] using this
 have k2 : ∀ j o, m ≤ j → ops[j]? = some o → ∀ k, k < j → ∃ i' o', k < i' ∧ i' ≤ j ∧ ops[i']? = some o' ∧ k ∈ edg o' := by
  intro j o hj ho k hk
  have := c2 j (Array.getElem?_eq_some_iff.1 ho).1
  simp only [Bool.or_eq_true] at this
  rcases this with h | h
  ·have : j < m := by simpa [Nat.blt_eq] using h
   omega
  ·have := (List.all_eq_true.1 h) k (List.mem_range.2 hk)
   obtain ⟨i', h1, h2⟩ := List.any_eq_true.1 this
   simp only [Bool.and_eq_true] at h2
   have h3 := List.mem_range.1 h1
   cases ho' : ops[i']? with
   | none => rw [ho'] at h2; simp at h2
   | some o' =>
    rw [ho'] at h2
    exact ⟨i', o', by simpa [Nat.blt_eq] using h2.1, by omega, ho', by simpa using h2.2⟩
 -- where all that an operation waits for is listed, all ahead of it is
 have k4 : ∀ (listed : Array Bool), (∀ k o, listed.getD k false = true → ops[k]? = some o → ∀ e ∈ edg o, listed.getD e false = true) → ∀ j o, m ≤ j → ops[j]? = some o → (∀ e ∈ edg o, listed.getD e false = true) → ∀ k, k < j → listed.getD k false = true := by
  intro listed hcl j o hj ho hall
  have : ∀ d k, k < j → j - k = d → listed.getD k false = true := by
   intro d
   induction d using Nat.strongRecOn with
   | _ d ihd =>
    intro k hk hd
    obtain ⟨i', o', h1, h2, h3, h4⟩ := k2 j o hj ho k hk
    rcases Nat.lt_or_ge i' j with h | h
    ·exact hcl i' o' (ihd (j - i') (by omega) i' h rfl) h3 k h4
    ·obtain rfl : i' = j := by omega
     rw [ho] at h3
     obtain rfl := Option.some.inj h3
     exact hall k h4
  exact fun k hk => this _ k hk rfl
 have k3 : ∀ i, i < m → ∃ d, dstOf ops i = some d ∧ d < N ∧ lk l0 d = none ∧ ∀ j, j < m → j ≠ i → ∃ e, dstOf ops j = some e ∧ e ≠ d := by
  intro i hi
  have := c3 i hi
  cases hd : dstOf ops i with
  | none => simp [hd] at this
  | some d =>
   simp only [hd, Bool.and_eq_true, List.all_eq_true, List.mem_range, Bool.or_eq_true] at this
   refine ⟨d, rfl, by simpa [Nat.blt_eq] using this.1.1, by simpa using this.1.2, fun j hj hne => ?_⟩
   rcases this.2 j hj with h | h
   ·exact absurd (by simpa using h) hne
   ·cases he : dstOf ops j with
    | none => simp [he] at h
    | some e => exact ⟨e, rfl, by simpa [he] using h⟩
 simp only [ownOk, Bool.and_eq_true, List.all_eq_true, List.mem_range] at hown
 have o1 : ∀ p ∈ outs, own.contains p.1 = false := fun p hp => by simpa using hown.1 p hp
 have o2 : ∀ i o, i < m → i ≠ e → ops[i]? = some o → ∀ p ∈ needs ops o, own.contains p.1 = false := by
  intro i o hi hne ho p hp
  have := hown.2 i hi
  rw [ho] at this
  simp only [Bool.or_eq_true] at this
  rcases this with h | h
  ·exact absurd (by simpa using h) hne
  ·simpa using (List.all_eq_true.1 h) p hp
 -- who still waits for an operation's result
 let waits : Nat → Array Bool → Prop := fun j listed => (∃ p ∈ outs, p.1 = j) ∨ ∃ i o, i < m ∧ listed.getD i false = false ∧ ops[i]? = some o ∧ ∃ p ∈ needs ops o, p.1 = j
 refine wpIn_region_any hm ?_
 -- the relation
 have key : ∀ (fuel : Nat) (listed : Array Bool) (a : Act) (g' : G), listed.size = ops.size → Fr0 g.dr g' → Fr N ds l0 a →
   (∀ i, i < m → listed.getD i false = true → ∃ d v, dstOf ops i = some d ∧ a.tmps[d]? = some v ∧ (waits i listed → (fct φs i).p v g')) → (∀ j, m ≤ j → j < ops.size → listed.getD j false = false) → (∀ k o, listed.getD k false = true → ops[k]? = some o → ∀ e ∈ edg o, listed.getD e false = true) →
   (ops.size - ((List.range ops.size).filter fun i => listed.getD i false).length ≤ fuel) → wpAnyIn F 0 P .any ops Q fuel listed a g'.w := by
  intro fuel
  induction fuel with
  | zero =>
   intro listed a g' hsz hf ha hfacts htail hcl hfuel
   have hall : ∀ j, j < ops.size → listed.getD j false = true := by
    have hlen : ((List.range ops.size).filter fun i => listed.getD i false).length = (List.range ops.size).length := by
     have := List.length_filter_le (fun i => listed.getD i false) (List.range ops.size)
     simp only [List.length_range] at this ⊢
     omega
    have := List.length_filter_eq_length_iff.1 hlen
    intro j hj
    exact this j (List.mem_range.2 hj)
   have hme : m = ops.size := by
    rcases Nat.lt_or_ge m ops.size with h | h
    ·have := htail m (Nat.le_refl _) h; rw [hall m h] at this; cases this
    ·omega
   obtain ⟨env, hW, henv⟩ := QA_use outs (hend g' hf) ha (fun p hp => by
    have := (List.all_eq_true.1 houts) p hp
    simp only [Bool.and_eq_true, beq_iff_eq] at this
    have hlt : p.1 < m := by simpa [Nat.blt_eq] using this.1
    obtain ⟨d, v, hd, hv, hfv⟩ := hfacts p.1 hlt (hall _ (by omega))
    replace hfv := hfv (.inl ⟨p, hp, rfl⟩)
    rw [this.2] at hd
    obtain rfl := Option.some.inj hd
    exact ⟨v, hv, hfv⟩)
   refine tail_run k1 0 ops.size listed a g'.w hsz (Nat.le_refl _) (fun j o hj ho => ?_) (fun j hj => ⟨fun _ => hj, fun _ => hall j hj⟩) (by omega) (by rw [← hme]; exact hW a henv)
   have := (Array.getElem?_eq_some_iff.1 ho).1
   omega
  | succ fuel ih =>
   intro listed a g' hsz hf ha hfacts htail hcl hfuel
   by_cases hpre : ∀ j, j < m → listed.getD j false = true
   ·obtain ⟨env, hW, henv⟩ := QA_use outs (hend g' hf) ha (fun p hp => by
     have := (List.all_eq_true.1 houts) p hp
     simp only [Bool.and_eq_true, beq_iff_eq] at this
     have hlt : p.1 < m := by simpa [Nat.blt_eq] using this.1
     obtain ⟨d, v, hd, hv, hfv⟩ := hfacts p.1 hlt (hpre _ hlt)
     replace hfv := hfv (.inl ⟨p, hp, rfl⟩)
     rw [this.2] at hd
     obtain rfl := Option.some.inj hd
     exact ⟨v, hv, hfv⟩)
    refine tail_run k1 (fuel + 1) m listed a g'.w hsz c4 (fun j o hj ho => k2 j o hj ho) (fun j hj => ⟨fun h => ?_, fun h => hpre j h⟩) ?_ (hW a henv)
    ·rcases Nat.lt_or_ge j m with h' | h'
     ·exact h'
     ·rw [htail j h' hj] at h; cases h
    ·have hle : ((List.range ops.size).filter fun i => listed.getD i false).length ≤ m := by
      have hsub : ((List.range ops.size).filter fun i => listed.getD i false).length ≤ ((List.range ops.size).filter fun i => decide (i < m)).length := by
       refine List.Sublist.length_le ?_
       rw [show ((List.range ops.size).filter fun i => listed.getD i false) = ((List.range ops.size).filter fun i => decide (i < m)).filter (fun i => listed.getD i false) from ?_]
       ·exact List.filter_sublist
       ·rw [List.filter_filter]
        refine List.filter_congr fun i hi => ?_
        have hi := List.mem_range.1 hi
        by_cases h : i < m
        ·simp [h]
        ·rw [htail i (by omega) hi]; simp
      have : ((List.range ops.size).filter fun i => decide (i < m)).length = m := by
       have e : ops.size = m + (ops.size - m) := by omega
       rw [e, List.range_add, List.filter_append, List.length_append, List.filter_eq_self.2 (by intro x hx; simpa using hx), List.filter_eq_nil_iff.2 (by
        intro x hx
        obtain ⟨y, _, rfl⟩ := List.mem_map.1 hx
        simp)]
       simp
      omega
     omega
   ·-- something of the first part is not listed: the least such is ready
    have hex : ∃ j, j < m ∧ listed.getD j false = false ∧ ∀ k, k < j → listed.getD k false = true := by
     have : ∃ j, j < m ∧ listed.getD j false = false := by
      apply Classical.byContradiction
      intro hno
      apply hpre
      intro j hj
      cases hc : listed.getD j false with
      | true => rfl
      | false => exact absurd ⟨j, hj, hc⟩ hno
     obtain ⟨j, hj⟩ := this
     induction j using Nat.strongRecOn with
     | _ j ihj =>
      by_cases hk : ∃ k, k < j ∧ listed.getD k false = false
      ·obtain ⟨k, hk1, hk2⟩ := hk
       exact ihj k hk1 ⟨by omega, hk2⟩
      ·refine ⟨j, hj.1, hj.2, fun k hk1 => ?_⟩
       cases hc : listed.getD k false with
       | true => rfl
       | false => exact absurd ⟨k, hk1, hc⟩ hk
    obtain ⟨j0, hj0, hj1, hj2⟩ := hex
    have hready : j0 ∈ Region.ready .any ops listed := by
     rw [ready_iff]
     have hlt : j0 < ops.size := by omega
     refine ⟨by rw [getD_lt (hsz ▸ hlt) true false]; exact hj1, _, Array.getElem?_eq_getElem hlt, fun k hk => hj2 k (k1 j0 _ (Array.getElem?_eq_getElem hlt) k hk)⟩
    refine ⟨fun h0 => (by rw [h0] at hready; cases hready), fun i hi => ?_⟩
    obtain ⟨h0, o, ho, hall⟩ := ready_iff.1 hi
    have hilt : i < ops.size := (Array.getElem?_eq_some_iff.1 ho).1
    rw [getD_lt (hsz ▸ hilt) true false] at h0
    have him : i < m := by
     rcases Nat.lt_or_ge i m with h | h
     ·exact h
     ·have := k4 listed hcl i o h ho hall j0 (by omega); rw [hj1] at this; cases this
    obtain ⟨d, hd, hdN, hd0, hdne⟩ := k3 i him
    have hod : o.dst = some d := by unfold dstOf at hd; rw [ho] at hd; exact hd
    have hstep := hsteps.at (i0 := 0) i o (by rw [List.getElem?_take_of_lt him]; simpa using ho)
    rw [Nat.zero_add] at hstep
    have hneeds : ∀ p ∈ needs ops o, ∃ v, a.tmps[p.2]? = some v ∧ (fct φs p.1).p v g' := by
     intro p hp
     have hp0 := hp
     unfold needs at hp
     obtain ⟨j, hj, hjp⟩ := List.mem_filterMap.1 hp
     cases hdj : dstOf ops j with
     | none => simp [hdj] at hjp
     | some e =>
      simp only [hdj] at hjp
      have hjm : j < m := by have := k1 i o ho j hj; omega
      obtain ⟨d', v, hd', hv, hfv⟩ := hfacts j hjm (hall j hj)
      rw [hdj] at hd'
      obtain rfl := Option.some.inj hd'
      have hjp2 : ∀ (c : Bool) (q : Nat × Nat), (bif c then some q else none) = some p → q = p := by
       intro c q h
       cases c with
       | true => exact Option.some.inj h
       | false => cases h
      obtain rfl := hjp2 _ _ hjp
      exact ⟨v, hv, hfv (.inr ⟨i, o, him, h0, ho, _, hp0, rfl⟩)⟩
    obtain ⟨env, hk, henv⟩ := QA_use (needs ops o) (hstep g' hf) ha hneeds
    -- what is asked behind the operation
    have hnext : ∀ (a' : Act) (g'' : G) (v : Value), a' = a.put o.dst v → Eff e g.dr i g' g'' → (fct φs i).p v g'' → wpAnyIn F 0 P .any ops Q fuel (listed.setIfInBounds i true) a' g''.w := by
     intro a' g'' v he hf' hfv
     have hfr : Fr0 g.dr g'' := by
      unfold Eff at hf'; split at hf'
      ·exact hf'.2
      ·exact hf.trans hf'
     have hput : ∀ t, t ≠ d → a'.tmps[t]? = a.tmps[t]? := fun t ht => by
      rw [he, hod]
      simp only [Act.put]
      rw [Array.getElem?_setIfInBounds_ne (fun e => ht e.symm)]
     have hself : a'.tmps[d]? = some v := by
      rw [he, hod]
      simp only [Act.put]
      rw [Array.getElem?_setIfInBounds_self, if_pos (by rw [ha.size]; exact hdN)]
     have hset : ∀ k, k ≠ i → (listed.setIfInBounds i true).getD k false = listed.getD k false := fun k hk => by
      simp only [Array.getD_eq_getD_getElem?]
      rw [Array.getElem?_setIfInBounds_ne (fun e => hk e.symm)]
     have hsetself : (listed.setIfInBounds i true).getD i false = true := by simp [hsz, hilt]
     refine ih _ a' g'' (by simpa using hsz) hfr ⟨by rw [he, hod]; exact ha.defers, by rw [he, hod]; simp [Act.put, ha.size], fun t u hu => ?_⟩ (fun k hk hkl => ?_) (fun j hj hjs => ?_) (fun k o' hk hko e he => ?_) ?_
     ·have htd : t ≠ d := fun e => by subst e; rw [hd0] at hu; cases hu
      rw [hput t htd]; exact ha.get t u hu
     ·by_cases hki : k = i
      ·subst hki
       exact ⟨d, v, hd, hself, fun _ => hfv⟩
      ·rw [hset k hki] at hkl
       obtain ⟨d', v', hd', hv', hfv'⟩ := hfacts k hk hkl
       obtain ⟨e, he1, he2⟩ := hdne k hk hki
       rw [hd'] at he1
       obtain rfl := Option.some.inj he1
       refine ⟨d', v', hd', by rw [hput d' he2]; exact hv', fun hwt => ?_⟩
       have hwt0 : waits k listed := by
        rcases hwt with h | ⟨i2, o2', h1, h2, h3⟩
        ·exact .inl h
        ·refine .inr ⟨i2, o2', h1, ?_, h3⟩
         by_cases h4 : i2 = i
         ·subst h4; rw [hsetself] at h2; cases h2
         ·rw [hset i2 h4] at h2; exact h2
       have hp := hfv' hwt0
       unfold Eff at hf'
       split at hf'
       ·rename_i hie
        rcases SoftL.at hsoft k with h | h
        ·rw [Nat.zero_add] at h
         rcases hwt with ⟨p, hp1, hp2⟩ | ⟨i2, o2', h1, h2, h3, p, hp1, hp2⟩
         ·have := o1 p hp1; rw [hp2, h] at this; cases this
         ·by_cases h4 : i2 = e
          ·rw [h4, ← hie, hsetself] at h2; cases h2
          ·have := o2 i2 o2' h1 h4 h3 p hp1; rw [hp2, h] at this; cases this
        ·exact h _ _ _ hf'.1 hp
       ·exact (fct φs k).mono _ _ _ hf' hp
     ·rw [hset j (by omega)]
      exact htail j hj hjs
     ·have hle : ∀ x, listed.getD x false = true → (listed.setIfInBounds i true).getD x false = true := fun x hx => by
       by_cases hxi : x = i
       ·subst hxi; exact hsetself
       ·rw [hset x hxi]; exact hx
      by_cases hki : k = i
      ·subst hki
       rw [ho] at hko
       obtain rfl := Option.some.inj hko
       exact hle e (hall e he)
      ·rw [hset k hki] at hk
       exact hle e (hcl k o' hk hko e he)
     ·have hlt : ((List.range ops.size).filter fun k => listed.getD k false).length < ((List.range ops.size).filter fun k => (listed.setIfInBounds i true).getD k false).length := by
       have hsub : List.Sublist ((List.range ops.size).filter fun k => listed.getD k false) ((List.range ops.size).filter fun k => (listed.setIfInBounds i true).getD k false) := by
        have e : ((List.range ops.size).filter fun k => listed.getD k false) = ((List.range ops.size).filter fun k => (listed.setIfInBounds i true).getD k false).filter (fun k => listed.getD k false) := by
         rw [List.filter_filter]
         refine List.filter_congr fun k _ => ?_
         by_cases hki : k = i
         ·subst hki; rw [hsetself]; simp
         ·rw [hset k hki]; simp
        rw [e]
        exact List.filter_sublist
       refine Nat.lt_of_le_of_ne hsub.length_le fun e => ?_
       have := hsub.eq_of_length e
       have hin : i ∈ ((List.range ops.size).filter fun k => (listed.setIfInBounds i true).getD k false) := List.mem_filter.2 ⟨List.mem_range.2 hilt, hsetself⟩
       rw [← this] at hin
       have := (List.mem_filter.1 hin).2
       rw [h0] at this
       cases this
      omega
    unfold wpOpIn
    rw [ho]
    simp only
    cases hg : gdx ops env o.guard with
    | none => rw [hg] at hk; exact hk.elim
    | some b =>
     have hwant : Region.wanted o (yielded ops a.tmps) = b := gdx_spec (l := env) (o := o) hg henv
     rw [hg] at hk
     cases b with
     | true =>
      rw [if_pos hwant]
      exact Oper.wpIn_mono (fun a' w' ⟨v, he, g'', hw, hf', hfv⟩ => hw ▸ hnext a' g'' v he hf' hfv) (hk a henv)
     | false =>
      rw [if_neg (by rw [hwant]; simp)]
      exact ⟨fun f _ => hF f, hnext _ g' undef rfl (by unfold Eff; split; exact ⟨G.le.refl _, hf⟩; exact Fr0.refl _) hk⟩
 refine key ops.size _ a g.dr (by simp) (Fr0.refl _) ha (fun i hi hl => ?_) (fun j _ hj => by simp [hj]) (fun k o hl => ?_) (by omega)
 ·simp only [Array.getD_eq_getD_getElem?, Array.getElem?_replicate] at hl
  split at hl <;> simp at hl
 ·simp only [Array.getD_eq_getD_getElem?, Array.getElem?_replicate] at hl
  split at hl <;> simp at hl


/-! ### Its steps -/
variable {e : Nat} {os : List Oper} {o : Oper} {l : Env} {g : G}
theorem E_cons {i : Nat} (h : StepE F P N ds ops Q φs l0 gd e i o) (h2 : StepsE F P N ds ops Q φs l0 gd e (i + 1) os) : StepsE F P N ds ops Q φs l0 gd e i (o :: os) := ⟨h, h2⟩
theorem E_nil {i : Nat} : StepsE F P N ds ops Q φs l0 gd e i [] := trivial
/-- An operation that is not the eater is shown as in any drawn region. -/
theorem E_step2 {i : Nat} {js : List (Nat × Nat)} (hj : needs ops o = js) (hne : Nat.beq i e = false) (h : ∀ g', Fr0 gd g' → QA φs g' js l0 (DK F P N ds ops Q (fct φs i) g' o)) : StepE F P N ds ops Q φs l0 gd e i o := by
 subst hj
 have hne' : i ≠ e := fun x => by subst x; simp at hne
 intro g' hf
 have hq := h g' hf
 have : ∀ env, DK F P N ds ops Q (fct φs i) g' o env → (match gdx ops env o.guard with
  | some true => OpR F P N ds o env g'.w Q fun v w' => ∃ g'', g''.w = w' ∧ Eff e gd i g' g'' ∧ (fct φs i).p v g''
  | some false => (fct φs i).p undef g'
  | none => False) := by
  intro env hd
  unfold DK at hd
  unfold Eff
  simp only [if_neg hne']
  exact hd
 have mono : ∀ (js : List (Nat × Nat)) (l : Env) (k k' : Env → Prop), (∀ env, k env → k' env) → QA φs g' js l k → QA φs g' js l k' := by
  intro js
  induction js with
  | nil => exact fun l k k' hk h => hk _ h
  | cons p r ih => exact fun l k k' hk h v hv => ih _ k k' hk (h v hv)
 exact mono _ _ _ _ this hq
/-- The eater. -/
def DE (F : Fence) (P : Program) (N : Nat) (ds : List Deferred) (ops : Array Oper) (Q : Exit → Act → World → Prop) (φ : Fact) (gd g' : G) (o : Oper) (env : Env) : Prop :=
 gdx ops env o.guard = some true ∧ OpR F P N ds o env g'.w Q fun v w' => ∃ g'', g''.w = w' ∧ g'.le g'' ∧ Fr0 gd g'' ∧ φ.p v g''
theorem E_eat {js : List (Nat × Nat)} (hj : needs ops o = js) (h : ∀ g', Fr0 gd g' → QA φs g' js l0 (DE F P N ds ops Q (fct φs e) gd g' o)) : StepE F P N ds ops Q φs l0 gd e e o := by
 subst hj
 intro g' hf
 have hq := h g' hf
 have : ∀ env, DE F P N ds ops Q (fct φs e) gd g' o env → (match gdx ops env o.guard with
  | some true => OpR F P N ds o env g'.w Q fun v w' => ∃ g'', g''.w = w' ∧ Eff e gd e g' g'' ∧ (fct φs e).p v g''
  | some false => (fct φs e).p undef g'
  | none => False) := by
  rintro env ⟨hg, hd⟩
  rw [hg]
  unfold Eff
  simp only [if_true]
  have hw : (fun v w' => ∃ g'', g''.w = w' ∧ g'.le g'' ∧ Fr0 gd g'' ∧ (fct φs e).p v g'') = fun v w' => ∃ g'', g''.w = w' ∧ (g'.le g'' ∧ Fr0 gd g'') ∧ (fct φs e).p v g'' := by
   funext v w'; apply propext; constructor
   ·rintro ⟨g'', h1, h2, h3, h4⟩; exact ⟨g'', h1, ⟨h2, h3⟩, h4⟩
   ·rintro ⟨g'', h1, ⟨h2, h3⟩, h4⟩; exact ⟨g'', h1, h2, h3, h4⟩
  rw [hw] at hd
  exact hd
 have mono : ∀ (js : List (Nat × Nat)) (l : Env) (k k' : Env → Prop), (∀ env, k env → k' env) → QA φs g' js l k → QA φs g' js l k' := by
  intro js
  induction js with
  | nil => exact fun l k k' hk h => hk _ h
  | cons p r ih => exact fun l k k' hk h v hv => ih _ k k' hk (h v hv)
 exact mono _ _ _ _ this hq
end Go.K

/- A scope that no goto of its own leaves. -/
namespace Go.K
open Go Go.RowKit

variable {F : Fence} {P : Program} {N : Nat} {ds : List Deferred} {l l' : Env} {a : Act} {w : World} {Q : Exit → Act → World → Prop} {c : Code}

theorem stepR_scope {b : Frame} {k : List Item} {cs : List Frame} : step P (lone (b.atR a (.code (.scope c) :: k)) cs w) = .next (lone (b.atR a (.code c :: .inScope c :: k)) cs w) :=
 step_lone_go (by simp [stepG, stepG.exec, Frame.atR])
theorem stepR_inScope {b : Frame} {k : List Item} {cs : List Frame} : step P (lone (b.atR a (.inScope c :: k)) cs w) = .next (lone (b.atR a k) cs w) :=
 step_lone_go (by simp [stepG, stepG.exec, Frame.atR])

theorem W_scope (h : W F P N ds c (Exit.noGoto Q) l w) : W F P N ds (.scope c) Q l w := by
 intro a ha b k cs hro hb hr
 have h0 : (lone (b.atR a (.code (.scope c) :: k)) cs w).fenced P F := fenced_calm hb hr rfl
 obtain ⟨e, a₁, w₁, hq, harr⟩ := h a ha b (.inScope c :: k) cs hro hb hr
 cases e with
 | normal => exact ⟨.normal, a₁, w₁, hq, .head h0 stepR_scope (StepsIn.trans harr (.one (fenced_calm hb hr rfl) stepR_inScope))⟩
 | exit id =>
  have hx : exitTo id (.inScope c :: k) = exitTo id k := by simp [exitTo]
  exact ⟨.exit id, a₁, w₁, hq, fun k' hk => .head h0 stepR_scope (harr.1 k' (by rw [hx]; exact hk)),
   fun hr' hk => let ⟨k₁, h1, h2⟩ := harr.2 hr' (by rw [hx]; exact hk); ⟨k₁, h1, .head h0 stepR_scope h2⟩⟩
 | goto l => exact hq.elim
 | ret => exact ⟨_, a₁, w₁, hq, .of_steps (.one h0 stepR_scope) harr⟩
 | panic ch => exact ⟨_, a₁, w₁, hq, .of_steps (.one h0 stepR_scope) harr⟩
 | outgrown => exact ⟨_, a₁, w₁, hq, .of_steps (.one h0 stepR_scope) harr⟩

theorem T_gr (h : ∀ a, Fr N ds l a → Q .ret a w) : ∀ a, Fr N ds l a → Exit.noGoto Q .ret a w := h
end Go.K

/- Division by a number that is not known, shifts by one that is. -/
namespace Go.K
open Go Go.RowKit

variable {F : Fence} {P : Program} {N : Nat} {ds : List Deferred} {l l' : Env} {a : Act} {w : World} {Q : Exit → Act → World → Prop} {o : Oper} {K : Value → World → Prop}

theorem OpR_rem {t t' : TypeId} {x y : Operand} {k : IntKind} {m n : Int} (ho : o.op = .binOp .rem t x y t') (hx : ev l x = some (.int k m)) (hy : ev l y = some (.int k n)) (hn : n ≠ 0) (kk : K (.int k (m.tmod n)) w) : OpR F P N ds o l w Q K := by
 refine OpR_value (fun c => ⟨by rw [ho]; simp, by rw [ho]; simp⟩) (fun a ha => ?_) kk
 simp only [execOp, ho, ha.ev hx, ha.ev hy, Sem.run_bind, run_eqGuard_int, Result.andThen_ok]
 unfold binOp
 simp only [ne_eq, not_true_eq_false, if_false]
 unfold Op.intDiv
 rw [if_neg hn]
 rfl

end Go.K

/- A region that draws its order, in which one operation may change what was owned before it (an append in place): what it needs comes ahead of it, what is free may come before or behind it. -/
namespace Go.K
open Go Go.RowKit

variable {F : Fence} {P : Program} {N : Nat} {ds : List Deferred} {ops : Array Oper} {Q : Exit → Act → World → Prop} {φs : List Fact} {l0 : Env} {gd : G}

def EffM (e i : Nat) (g g' : G) : Prop := if i = e then g.le g' else Fr0 g g'

def StepM (F : Fence) (P : Program) (N : Nat) (ds : List Deferred) (ops : Array Oper) (Q : Exit → Act → World → Prop) (φs : List Fact) (l0 : Env) (gd : G) (anc : List Nat) (e i : Nat) (o : Oper) : Prop :=
 ∀ g', gd.le g' → ((anc.contains i = true ∨ i = e) → Fr0 gd g') → QA φs g' (needs ops o) l0 fun env =>
  match gdx ops env o.guard with
  | some true => OpR F P N ds o env g'.w Q fun v w' => ∃ g'', g''.w = w' ∧ EffM e i g' g'' ∧ (fct φs i).p v g''
  | some false => (fct φs i).p undef g'
  | none => False
def StepsM (F : Fence) (P : Program) (N : Nat) (ds : List Deferred) (ops : Array Oper) (Q : Exit → Act → World → Prop) (φs : List Fact) (l0 : Env) (gd : G) (anc : List Nat) (e : Nat) : Nat → List Oper → Prop
 | _, [] => True
 | i, o :: os => StepM F P N ds ops Q φs l0 gd anc e i o ∧ StepsM F P N ds ops Q φs l0 gd anc e (i + 1) os
/-- All of a list must come ahead of an operation. -/
def ancOk (ops : Array Oper) (anc : List Nat) (e : Nat) : Bool :=
 anc.all fun i => Nat.blt i e && (e :: anc).any fun j => match ops[j]? with | some o => (edg o).contains i | none => false

theorem StepsM.at {anc : List Nat} {e : Nat} : ∀ {l : List Oper} {i0 : Nat}, StepsM F P N ds ops Q φs l0 gd anc e i0 l → ∀ (j : Nat) o, l[j]? = some o → StepM F P N ds ops Q φs l0 gd anc e (i0 + j) o
 | [], _, _, j, o, h => by simp at h
 | x :: l, i0, hs, 0, o, h => by
  simp only [List.getElem?_cons_zero, Option.some.injEq] at h
  subst h
  exact hs.1
 | x :: l, i0, hs, j + 1, o, h => by
  simp only [List.getElem?_cons_succ] at h
  have := StepsM.at (i0 := i0 + 1) hs.2 j o h
  rw [show i0 + (j + 1) = i0 + 1 + j from by omega]
  exact this

theorem W_drawM {id : Nat} {g : G} (hF : ∀ f, F.fn f) (hm : P.follows .mixedOrders = true) (φs : List Fact) (m : Nat) (outs : List (Nat × Nat)) (own anc : List Nat) (e : Nat) (hok : drawOk N ops l0 m = true) (hown : ownOk ops own e m outs = true) (hanc : ancOk ops anc e = true) (hsoft : SoftL (e :: own) 0 φs)
  (houts : outs.all (fun p => Nat.blt p.1 m && (dstOf ops p.1 == some p.2)) = true)
  (hsteps : StepsM F P N ds ops Q φs l0 g.dr anc e 0 (ops.toList.take m))
  (hend : ∀ g', g.dr.le g' → QA φs g' outs l0 fun env => WL F P N ds ops Q (ops.toList.drop m) env g'.w) : W F P N ds (.region id ops true) Q l0 g.w := by
 intro a ha
 simp only [drawOk, Bool.and_eq_true, List.all_eq_true, List.mem_range] at hok
 obtain ⟨⟨⟨c1, c2⟩, c3⟩, c4⟩ := hok
 have c4 : m ≤ ops.size := Nat.le_of_ble_eq_true c4
 have k1 : ∀ i o, ops[i]? = some o → ∀ j ∈ edg o, j < i := by
  intro i o ho j hj
  have := c1 i (Array.getElem?_eq_some_iff.1 ho).1
  rw [ho] at this
  have := (List.all_eq_true.1 this) j hj
  simpa [Nat.blt_eq] using this
 have k2 : ∀ j o, m ≤ j → ops[j]? = some o → ∀ k, k < j → ∃ i' o', k < i' ∧ i' ≤ j ∧ ops[i']? = some o' ∧ k ∈ edg o' := by
  intro j o hj ho k hk
  have := c2 j (Array.getElem?_eq_some_iff.1 ho).1
  simp only [Bool.or_eq_true] at this
  rcases this with h | h
  ·have : j < m := by simpa [Nat.blt_eq] using h
   omega
  ·have := (List.all_eq_true.1 h) k (List.mem_range.2 hk)
   obtain ⟨i', h1, h2⟩ := List.any_eq_true.1 this
   simp only [Bool.and_eq_true] at h2
   have h3 := List.mem_range.1 h1
   cases ho' : ops[i']? with
   | none => rw [ho'] at h2; simp at h2
   | some o' =>
    rw [ho'] at h2
    exact ⟨i', o', by simpa [Nat.blt_eq] using h2.1, by omega, ho', by simpa using h2.2⟩
 -- where all that an operation waits for is listed, all ahead of it is
 have k4 : ∀ (listed : Array Bool), (∀ k o, listed.getD k false = true → ops[k]? = some o → ∀ e ∈ edg o, listed.getD e false = true) → ∀ j o, m ≤ j → ops[j]? = some o → (∀ e ∈ edg o, listed.getD e false = true) → ∀ k, k < j → listed.getD k false = true := by
  intro listed hcl j o hj ho hall
  have : ∀ d k, k < j → j - k = d → listed.getD k false = true := by
   intro d
   induction d using Nat.strongRecOn with
   | _ d ihd =>
    intro k hk hd
    obtain ⟨i', o', h1, h2, h3, h4⟩ := k2 j o hj ho k hk
    rcases Nat.lt_or_ge i' j with h | h
    ·exact hcl i' o' (ihd (j - i') (by omega) i' h rfl) h3 k h4
    ·obtain rfl : i' = j := by omega
     rw [ho] at h3
     obtain rfl := Option.some.inj h3
     exact hall k h4
  exact fun k hk => this _ k hk rfl
 have k3 : ∀ i, i < m → ∃ d, dstOf ops i = some d ∧ d < N ∧ lk l0 d = none ∧ ∀ j, j < m → j ≠ i → ∃ e, dstOf ops j = some e ∧ e ≠ d := by
  intro i hi
  have := c3 i hi
  cases hd : dstOf ops i with
  | none => simp [hd] at this
  | some d =>
   simp only [hd, Bool.and_eq_true, List.all_eq_true, List.mem_range, Bool.or_eq_true] at this
   refine ⟨d, rfl, by simpa [Nat.blt_eq] using this.1.1, by simpa using this.1.2, fun j hj hne => ?_⟩
   rcases this.2 j hj with h | h
   ·exact absurd (by simpa using h) hne
   ·cases he : dstOf ops j with
    | none => simp [he] at h
    | some e => exact ⟨e, rfl, by simpa [he] using h⟩
 simp only [ownOk, Bool.and_eq_true, List.all_eq_true, List.mem_range] at hown
 have o1 : ∀ p ∈ outs, own.contains p.1 = false := fun p hp => by simpa using hown.1 p hp
 have o2 : ∀ i o, i < m → i ≠ e → ops[i]? = some o → ∀ p ∈ needs ops o, own.contains p.1 = false := by
  intro i o hi hne ho p hp
  have := hown.2 i hi
  rw [ho] at this
  simp only [Bool.or_eq_true] at this
  rcases this with h | h
  ·exact absurd (by simpa using h) hne
  ·simpa using (List.all_eq_true.1 h) p hp
 have hAnc : ∀ (listed : Array Bool), (∀ k o, listed.getD k false = true → ops[k]? = some o → ∀ e ∈ edg o, listed.getD e false = true) → listed.getD e false = true → ∀ i, anc.contains i = true → listed.getD i false = true := by
  intro listed hcl hle
  have : ∀ d i, anc.contains i = true → e - i = d → listed.getD i false = true := by
   intro d
   induction d using Nat.strongRecOn with
   | _ d ihd =>
    intro i hi hd
    have h := (List.all_eq_true.1 hanc) i (by simpa using hi)
    simp only [Bool.and_eq_true, List.any_eq_true] at h
    obtain ⟨hie, j, hj, hj2⟩ := h
    have hie : i < e := by simpa [Nat.blt_eq] using hie
    cases ho' : ops[j]? with
    | none => rw [ho'] at hj2; simp at hj2
    | some o' =>
     rw [ho'] at hj2
     have hij := k1 j o' ho' i (by simpa using hj2)
     refine hcl j o' ?_ ho' i (by simpa using hj2)
     rcases List.mem_cons.1 hj with rfl | hj
     ·exact hle
     ·have hje := (List.all_eq_true.1 hanc) j hj
      simp only [Bool.and_eq_true] at hje
      have hje : j < e := by simpa [Nat.blt_eq] using hje.1
      exact ihd (e - j) (by omega) j (by simpa using hj) rfl
  exact fun i hi => this _ i hi rfl
 -- who still waits for an operation's result
 let waits : Nat → Array Bool → Prop := fun j listed => (∃ p ∈ outs, p.1 = j) ∨ ∃ i o, i < m ∧ listed.getD i false = false ∧ ops[i]? = some o ∧ ∃ p ∈ needs ops o, p.1 = j
 refine wpIn_region_any hm ?_
 -- the relation
 have key : ∀ (fuel : Nat) (listed : Array Bool) (a : Act) (g' : G), listed.size = ops.size → (g.dr.le g' ∧ (listed.getD e false = false → Fr0 g.dr g')) → Fr N ds l0 a →
   (∀ i, i < m → listed.getD i false = true → ∃ d v, dstOf ops i = some d ∧ a.tmps[d]? = some v ∧ (waits i listed → (fct φs i).p v g')) → (∀ j, m ≤ j → j < ops.size → listed.getD j false = false) → (∀ k o, listed.getD k false = true → ops[k]? = some o → ∀ e ∈ edg o, listed.getD e false = true) →
   (ops.size - ((List.range ops.size).filter fun i => listed.getD i false).length ≤ fuel) → wpAnyIn F 0 P .any ops Q fuel listed a g'.w := by
  intro fuel
  induction fuel with
  | zero =>
   intro listed a g' hsz hf ha hfacts htail hcl hfuel
   have hall : ∀ j, j < ops.size → listed.getD j false = true := by
    have hlen : ((List.range ops.size).filter fun i => listed.getD i false).length = (List.range ops.size).length := by
     have := List.length_filter_le (fun i => listed.getD i false) (List.range ops.size)
     simp only [List.length_range] at this ⊢
     omega
    have := List.length_filter_eq_length_iff.1 hlen
    intro j hj
    exact this j (List.mem_range.2 hj)
   have hme : m = ops.size := by
    rcases Nat.lt_or_ge m ops.size with h | h
    ·have := htail m (Nat.le_refl _) h; rw [hall m h] at this; cases this
    ·omega
   obtain ⟨env, hW, henv⟩ := QA_use outs (hend g' hf.1) ha (fun p hp => by
    have := (List.all_eq_true.1 houts) p hp
    simp only [Bool.and_eq_true, beq_iff_eq] at this
    have hlt : p.1 < m := by simpa [Nat.blt_eq] using this.1
    obtain ⟨d, v, hd, hv, hfv⟩ := hfacts p.1 hlt (hall _ (by omega))
    replace hfv := hfv (.inl ⟨p, hp, rfl⟩)
    rw [this.2] at hd
    obtain rfl := Option.some.inj hd
    exact ⟨v, hv, hfv⟩)
   refine tail_run k1 0 ops.size listed a g'.w hsz (Nat.le_refl _) (fun j o hj ho => ?_) (fun j hj => ⟨fun _ => hj, fun _ => hall j hj⟩) (by omega) (by rw [← hme]; exact hW a henv)
   have := (Array.getElem?_eq_some_iff.1 ho).1
   omega
  | succ fuel ih =>
   intro listed a g' hsz hf ha hfacts htail hcl hfuel
   by_cases hpre : ∀ j, j < m → listed.getD j false = true
   ·obtain ⟨env, hW, henv⟩ := QA_use outs (hend g' hf.1) ha (fun p hp => by
     have := (List.all_eq_true.1 houts) p hp
     simp only [Bool.and_eq_true, beq_iff_eq] at this
     have hlt : p.1 < m := by simpa [Nat.blt_eq] using this.1
     obtain ⟨d, v, hd, hv, hfv⟩ := hfacts p.1 hlt (hpre _ hlt)
     replace hfv := hfv (.inl ⟨p, hp, rfl⟩)
     rw [this.2] at hd
     obtain rfl := Option.some.inj hd
     exact ⟨v, hv, hfv⟩)
    refine tail_run k1 (fuel + 1) m listed a g'.w hsz c4 (fun j o hj ho => k2 j o hj ho) (fun j hj => ⟨fun h => ?_, fun h => hpre j h⟩) ?_ (hW a henv)
    ·rcases Nat.lt_or_ge j m with h' | h'
     ·exact h'
     ·rw [htail j h' hj] at h; cases h
    ·have hle : ((List.range ops.size).filter fun i => listed.getD i false).length ≤ m := by
      have hsub : ((List.range ops.size).filter fun i => listed.getD i false).length ≤ ((List.range ops.size).filter fun i => decide (i < m)).length := by
       refine List.Sublist.length_le ?_
       rw [show ((List.range ops.size).filter fun i => listed.getD i false) = ((List.range ops.size).filter fun i => decide (i < m)).filter (fun i => listed.getD i false) from ?_]
       ·exact List.filter_sublist
       ·rw [List.filter_filter]
        refine List.filter_congr fun i hi => ?_
        have hi := List.mem_range.1 hi
        by_cases h : i < m
        ·simp [h]
        ·rw [htail i (by omega) hi]; simp
      have : ((List.range ops.size).filter fun i => decide (i < m)).length = m := by
       have e : ops.size = m + (ops.size - m) := by omega
       rw [e, List.range_add, List.filter_append, List.length_append, List.filter_eq_self.2 (by intro x hx; simpa using hx), List.filter_eq_nil_iff.2 (by
        intro x hx
        obtain ⟨y, _, rfl⟩ := List.mem_map.1 hx
        simp)]
       simp
      omega
     omega
   ·-- something of the first part is not listed: the least such is ready
    have hex : ∃ j, j < m ∧ listed.getD j false = false ∧ ∀ k, k < j → listed.getD k false = true := by
     have : ∃ j, j < m ∧ listed.getD j false = false := by
      apply Classical.byContradiction
      intro hno
      apply hpre
      intro j hj
      cases hc : listed.getD j false with
      | true => rfl
      | false => exact absurd ⟨j, hj, hc⟩ hno
     obtain ⟨j, hj⟩ := this
     induction j using Nat.strongRecOn with
     | _ j ihj =>
      by_cases hk : ∃ k, k < j ∧ listed.getD k false = false
      ·obtain ⟨k, hk1, hk2⟩ := hk
       exact ihj k hk1 ⟨by omega, hk2⟩
      ·refine ⟨j, hj.1, hj.2, fun k hk1 => ?_⟩
       cases hc : listed.getD k false with
       | true => rfl
       | false => exact absurd ⟨k, hk1, hc⟩ hk
    obtain ⟨j0, hj0, hj1, hj2⟩ := hex
    have hready : j0 ∈ Region.ready .any ops listed := by
     rw [ready_iff]
     have hlt : j0 < ops.size := by omega
     refine ⟨by rw [getD_lt (hsz ▸ hlt) true false]; exact hj1, _, Array.getElem?_eq_getElem hlt, fun k hk => hj2 k (k1 j0 _ (Array.getElem?_eq_getElem hlt) k hk)⟩
    refine ⟨fun h0 => (by rw [h0] at hready; cases hready), fun i hi => ?_⟩
    obtain ⟨h0, o, ho, hall⟩ := ready_iff.1 hi
    have hilt : i < ops.size := (Array.getElem?_eq_some_iff.1 ho).1
    rw [getD_lt (hsz ▸ hilt) true false] at h0
    have him : i < m := by
     rcases Nat.lt_or_ge i m with h | h
     ·exact h
     ·have := k4 listed hcl i o h ho hall j0 (by omega); rw [hj1] at this; cases this
    obtain ⟨d, hd, hdN, hd0, hdne⟩ := k3 i him
    have hod : o.dst = some d := by unfold dstOf at hd; rw [ho] at hd; exact hd
    have hstep := hsteps.at (i0 := 0) i o (by rw [List.getElem?_take_of_lt him]; simpa using ho)
    rw [Nat.zero_add] at hstep
    have hFr : (anc.contains i = true ∨ i = e) → Fr0 g.dr g' := by
     intro hi
     refine hf.2 ?_
     cases hle : listed.getD e false with
     | false => rfl
     | true =>
      exfalso
      rcases hi with hi | hi
      ·have := hAnc listed hcl hle i hi
       rw [this] at h0; cases h0
      ·subst hi; rw [hle] at h0; cases h0
    have hneeds : ∀ p ∈ needs ops o, ∃ v, a.tmps[p.2]? = some v ∧ (fct φs p.1).p v g' := by
     intro p hp
     have hp0 := hp
     unfold needs at hp
     obtain ⟨j, hj, hjp⟩ := List.mem_filterMap.1 hp
     cases hdj : dstOf ops j with
     | none => simp [hdj] at hjp
     | some e =>
      simp only [hdj] at hjp
      have hjm : j < m := by have := k1 i o ho j hj; omega
      obtain ⟨d', v, hd', hv, hfv⟩ := hfacts j hjm (hall j hj)
      rw [hdj] at hd'
      obtain rfl := Option.some.inj hd'
      have hjp2 : ∀ (c : Bool) (q : Nat × Nat), (bif c then some q else none) = some p → q = p := by
       intro c q h
       cases c with
       | true => exact Option.some.inj h
       | false => cases h
      obtain rfl := hjp2 _ _ hjp
      exact ⟨v, hv, hfv (.inr ⟨i, o, him, h0, ho, _, hp0, rfl⟩)⟩
    obtain ⟨env, hk, henv⟩ := QA_use (needs ops o) (hstep g' hf.1 hFr) ha hneeds
    -- what is asked behind the operation
    have hnext : ∀ (a' : Act) (g'' : G) (v : Value), a' = a.put o.dst v → EffM e i g' g'' → (fct φs i).p v g'' → wpAnyIn F 0 P .any ops Q fuel (listed.setIfInBounds i true) a' g''.w := by
     intro a' g'' v he hf' hfv
     have hfr : g.dr.le g'' ∧ ((listed.setIfInBounds i true).getD e false = false → Fr0 g.dr g'') := by
      unfold EffM at hf'; split at hf'
      ·rename_i hie
       refine ⟨hf.1.trans hf', fun hl => ?_⟩
       subst hie
       simp [hsz, hilt] at hl
      ·rename_i hie
       refine ⟨hf.1.trans hf'.le, fun hl => ?_⟩
       refine (hf.2 ?_).trans hf'
       have : (listed.setIfInBounds i true).getD e false = listed.getD e false := by
        simp only [Array.getD_eq_getD_getElem?]
        rw [Array.getElem?_setIfInBounds_ne hie]
       rw [← this]; exact hl
     have hput : ∀ t, t ≠ d → a'.tmps[t]? = a.tmps[t]? := fun t ht => by
      rw [he, hod]
      simp only [Act.put]
      rw [Array.getElem?_setIfInBounds_ne (fun e => ht e.symm)]
     have hself : a'.tmps[d]? = some v := by
      rw [he, hod]
      simp only [Act.put]
      rw [Array.getElem?_setIfInBounds_self, if_pos (by rw [ha.size]; exact hdN)]
     have hset : ∀ k, k ≠ i → (listed.setIfInBounds i true).getD k false = listed.getD k false := fun k hk => by
      simp only [Array.getD_eq_getD_getElem?]
      rw [Array.getElem?_setIfInBounds_ne (fun e => hk e.symm)]
     have hsetself : (listed.setIfInBounds i true).getD i false = true := by simp [hsz, hilt]
     refine ih _ a' g'' (by simpa using hsz) hfr ⟨by rw [he, hod]; exact ha.defers, by rw [he, hod]; simp [Act.put, ha.size], fun t u hu => ?_⟩ (fun k hk hkl => ?_) (fun j hj hjs => ?_) (fun k o' hk hko e he => ?_) ?_
     ·have htd : t ≠ d := fun e => by subst e; rw [hd0] at hu; cases hu
      rw [hput t htd]; exact ha.get t u hu
     ·by_cases hki : k = i
      ·subst hki
       exact ⟨d, v, hd, hself, fun _ => hfv⟩
      ·rw [hset k hki] at hkl
       obtain ⟨d', v', hd', hv', hfv'⟩ := hfacts k hk hkl
       obtain ⟨e, he1, he2⟩ := hdne k hk hki
       rw [hd'] at he1
       obtain rfl := Option.some.inj he1
       refine ⟨d', v', hd', by rw [hput d' he2]; exact hv', fun hwt => ?_⟩
       have hwt0 : waits k listed := by
        rcases hwt with h | ⟨i2, o2', h1, h2, h3⟩
        ·exact .inl h
        ·refine .inr ⟨i2, o2', h1, ?_, h3⟩
         by_cases h4 : i2 = i
         ·subst h4; rw [hsetself] at h2; cases h2
         ·rw [hset i2 h4] at h2; exact h2
       have hp := hfv' hwt0
       unfold EffM at hf'
       split at hf'
       ·rename_i hie
        rcases SoftL.at hsoft k with h | h
        ·rw [Nat.zero_add] at h
         replace h : own.contains k = true := by
          have hke : (k == e) = false := by simp; exact fun q => hki (q.trans hie.symm)
          simp only [List.contains_cons, hke, Bool.false_or] at h
          exact h
         rcases hwt with ⟨p, hp1, hp2⟩ | ⟨i2, o2', h1, h2, h3, p, hp1, hp2⟩
         ·have := o1 p hp1; rw [hp2, h] at this; cases this
         ·by_cases h4 : i2 = e
          ·rw [h4, ← hie, hsetself] at h2; cases h2
          ·have := o2 i2 o2' h1 h4 h3 p hp1; rw [hp2, h] at this; cases this
        ·exact h _ _ _ hf' hp
       ·exact (fct φs k).mono _ _ _ hf' hp
     ·rw [hset j (by omega)]
      exact htail j hj hjs
     ·have hle : ∀ x, listed.getD x false = true → (listed.setIfInBounds i true).getD x false = true := fun x hx => by
       by_cases hxi : x = i
       ·subst hxi; exact hsetself
       ·rw [hset x hxi]; exact hx
      by_cases hki : k = i
      ·subst hki
       rw [ho] at hko
       obtain rfl := Option.some.inj hko
       exact hle e (hall e he)
      ·rw [hset k hki] at hk
       exact hle e (hcl k o' hk hko e he)
     ·have hlt : ((List.range ops.size).filter fun k => listed.getD k false).length < ((List.range ops.size).filter fun k => (listed.setIfInBounds i true).getD k false).length := by
       have hsub : List.Sublist ((List.range ops.size).filter fun k => listed.getD k false) ((List.range ops.size).filter fun k => (listed.setIfInBounds i true).getD k false) := by
        have e : ((List.range ops.size).filter fun k => listed.getD k false) = ((List.range ops.size).filter fun k => (listed.setIfInBounds i true).getD k false).filter (fun k => listed.getD k false) := by
         rw [List.filter_filter]
         refine List.filter_congr fun k _ => ?_
         by_cases hki : k = i
         ·subst hki; rw [hsetself]; simp
         ·rw [hset k hki]; simp
        rw [e]
        exact List.filter_sublist
       refine Nat.lt_of_le_of_ne hsub.length_le fun e => ?_
       have := hsub.eq_of_length e
       have hin : i ∈ ((List.range ops.size).filter fun k => (listed.setIfInBounds i true).getD k false) := List.mem_filter.2 ⟨List.mem_range.2 hilt, hsetself⟩
       rw [← this] at hin
       have := (List.mem_filter.1 hin).2
       rw [h0] at this
       cases this
      omega
    unfold wpOpIn
    rw [ho]
    simp only
    cases hg : gdx ops env o.guard with
    | none => rw [hg] at hk; exact hk.elim
    | some b =>
     have hwant : Region.wanted o (yielded ops a.tmps) = b := gdx_spec (l := env) (o := o) hg henv
     rw [hg] at hk
     cases b with
     | true =>
      rw [if_pos hwant]
      exact Oper.wpIn_mono (fun a' w' ⟨v, he, g'', hw, hf', hfv⟩ => hw ▸ hnext a' g'' v he hf' hfv) (hk a henv)
     | false =>
      rw [if_neg (by rw [hwant]; simp)]
      exact ⟨fun f _ => hF f, hnext _ g' undef rfl (by unfold EffM; split; exact G.le.refl _; exact Fr0.refl _) hk⟩
 refine key ops.size _ a g.dr (by simp) ⟨G.le.refl _, fun _ => Fr0.refl _⟩ ha (fun i hi hl => ?_) (fun j _ hj => by simp [hj]) (fun k o hl => ?_) (by omega)
 ·simp only [Array.getD_eq_getD_getElem?, Array.getElem?_replicate] at hl
  split at hl <;> simp at hl
 ·simp only [Array.getD_eq_getD_getElem?, Array.getElem?_replicate] at hl
  split at hl <;> simp at hl



/-! ### Its steps -/
variable {anc : List Nat} {e : Nat} {os : List Oper} {o : Oper} {l : Env} {g : G}
theorem M_cons {i : Nat} (h : StepM F P N ds ops Q φs l0 gd anc e i o) (h2 : StepsM F P N ds ops Q φs l0 gd anc e (i + 1) os) : StepsM F P N ds ops Q φs l0 gd anc e i (o :: os) := ⟨h, h2⟩
theorem M_nil {i : Nat} : StepsM F P N ds ops Q φs l0 gd anc e i [] := trivial
theorem QA_mono {g' : G} : ∀ (js : List (Nat × Nat)) (l : Env) (k k' : Env → Prop), (∀ env, k env → k' env) → QA φs g' js l k → QA φs g' js l k'
 | [], _, _, _, hk, h => hk _ h
 | _ :: r, _, k, k', hk, h => fun v hv => QA_mono r _ k k' hk (h v hv)
theorem DK_eff {i : Nat} (hne : Nat.beq i e = false) {g' : G} {env : Env} (hd : DK F P N ds ops Q (fct φs i) g' o env) : (match gdx ops env o.guard with
  | some true => OpR F P N ds o env g'.w Q fun v w' => ∃ g'', g''.w = w' ∧ EffM e i g' g'' ∧ (fct φs i).p v g''
  | some false => (fct φs i).p undef g'
  | none => False) := by
 have hne' : i ≠ e := fun x => by subst x; simp at hne
 unfold DK at hd
 unfold EffM
 simp only [if_neg hne']
 exact hd
/-- One that the changing one needs. -/
theorem M_anc {i : Nat} {js : List (Nat × Nat)} (hj : needs ops o = js) (hne : Nat.beq i e = false) (ha : anc.contains i = true) (h : ∀ g', Fr0 gd g' → QA φs g' js l0 (DK F P N ds ops Q (fct φs i) g' o)) : StepM F P N ds ops Q φs l0 gd anc e i o := by
 subst hj
 intro g' _ hf
 exact QA_mono _ _ _ _ (fun env hd => DK_eff hne hd) (h g' (hf (.inl ha)))
/-- One that is free. -/
theorem M_free {i : Nat} {js : List (Nat × Nat)} (hj : needs ops o = js) (hne : Nat.beq i e = false) (h : ∀ g', gd.le g' → QA φs g' js l0 (DK F P N ds ops Q (fct φs i) g' o)) : StepM F P N ds ops Q φs l0 gd anc e i o := by
 subst hj
 intro g' hf _
 exact QA_mono _ _ _ _ (fun env hd => DK_eff hne hd) (h g' hf)
/-- The changing one. -/
def DM (F : Fence) (P : Program) (N : Nat) (ds : List Deferred) (ops : Array Oper) (Q : Exit → Act → World → Prop) (φ : Fact) (g' : G) (o : Oper) (env : Env) : Prop :=
 gdx ops env o.guard = some true ∧ OpR F P N ds o env g'.w Q fun v w' => ∃ g'', g''.w = w' ∧ g'.le g'' ∧ φ.p v g''
theorem M_eat {js : List (Nat × Nat)} (hj : needs ops o = js) (h : ∀ g', Fr0 gd g' → QA φs g' js l0 (DM F P N ds ops Q (fct φs e) g' o)) : StepM F P N ds ops Q φs l0 gd anc e e o := by
 subst hj
 intro g' _ hf
 refine QA_mono _ _ _ _ (fun env hd => ?_) (h g' (hf (.inr rfl)))
 obtain ⟨hg, hd⟩ := hd
 rw [hg]
 unfold EffM
 simp only [if_true]
 exact hd
/-- Where ways meet again. -/
theorem W_mid {c : Code} {w : World} {J' : Act → World → Prop} (J : Act → World → Prop) (h : W F P N ds c (Exit.then J Q) l w) (h2 : ∀ a w, J a w → J' a w) : W F P N ds c (Exit.then J' Q) l w :=
 fun a ha => Go.wpIn_mono (h a ha) fun e a w hq => by cases e <;> first | exact h2 _ _ hq | exact hq
theorem T_mid {J : Act → World → Prop} {a : Act} {w : World} (h : J a w) : Exit.then J Q .normal a w := h
theorem EP.sub {g : G} {b p : Nat} {ys : List Value} (h : EP g b p ys) (i : Nat) {v : Value} (hv : ys[i]? = some v) : EP g b (p + i * 1) [v] := by
 refine ⟨h.1, fun j y hy => ?_⟩
 cases j with
 | zero =>
  simp only [List.getElem?_cons_zero, Option.some.injEq] at hy
  subst hy
  rw [Nat.mul_one, Nat.add_zero]; exact h.2 i v hv
 | succ j => simp at hy
theorem T_wl0 {w : World} (h : ∀ a, Fr N ds l a → Q .normal a w) : ∀ a, Fr N ds l a → wpListIn F 0 P ops Q [] a w := h
/-- What is known behind an append to an own row: the state, with the row's new value. -/
def appF {α : Type} [El α] (g0 : G) (L : Value → List Value → List Ent) (n : Nat) (xs : List α) : Fact :=
 ⟨fun v g => ∃ a c cells, v = .slice a n c ∧ St g0 g (L v cells) ∧ RcL g cells xs, fun _ _ _ hf ⟨a, c, cells, e, h1, h2⟩ => ⟨a, c, cells, e, h1.call hf, h2.mono hf.le⟩⟩
/-- A slot's value said otherwise, in its place. -/
theorem WL_rep {w : World} {t : Nat} {u : Value} (v : Value) (hl : lk l t = some u) (e : u = v) (h : WL F P N ds ops Q os (rep t v l) w) : WL F P N ds ops Q os l w :=
 fun a ha => h a (ha.rep hl e)
end Go.K

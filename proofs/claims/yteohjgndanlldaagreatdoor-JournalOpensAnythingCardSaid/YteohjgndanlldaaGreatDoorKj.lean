/- Drawn regions in which a chain of operations changes what is owned. -/
import Derived.Test.YteohjgndanlldaaGreatDoorKi

namespace Go.K
open Go Go.RowKit

variable {F : Fence} {P : Program} {N : Nat} {ds : List Deferred} {ops : Array Oper} {Q : Exit → Act → World → Prop} {φs : List Fact} {l0 : Env} {gd : G}

/-- Where an operation stands in the chain. -/
def posOf : List Nat → Nat → Option Nat
 | [], _ => none
 | e :: r, i => bif Nat.beq e i then some 0 else (posOf r i).map (· + 1)
theorem posOf_some : ∀ {es : List Nat} {i k : Nat}, posOf es i = some k → es[k]? = some i
 | [], i, k, h => by cases h
 | e :: r, i, k, h => by
  unfold posOf at h
  cases hb : Nat.beq e i with
  | true =>
   rw [hb] at h
   obtain rfl := Option.some.inj h
   rw [Nat.eq_of_beq_eq_true hb]; rfl
  | false =>
   rw [hb] at h
   cases hp : posOf r i with
   | none => rw [hp] at h; cases h
   | some k' =>
    rw [hp] at h
    obtain rfl := Option.some.inj h
    exact posOf_some (es := r) hp
theorem posOf_none : ∀ {es : List Nat} {i : Nat}, posOf es i = none → ∀ k : Nat, es[k]? ≠ some i
 | [], i, _, k => by simp
 | e :: r, i, h, k => by
  unfold posOf at h
  cases hb : Nat.beq e i with
  | true => rw [hb] at h; cases h
  | false =>
   rw [hb] at h
   cases hp : posOf r i with
   | some k' => rw [hp] at h; cases h
   | none =>
    cases k with
    | zero =>
     intro he
     obtain rfl : e = i := by simpa using he
     rw [Nat.beq_refl] at hb; cases hb
    | succ k => exact posOf_none hp k
/-- Each of the chain waits for the one before it. -/
def chainOk (ops : Array Oper) (es : List Nat) (m : Nat) : Bool :=
 (List.range es.length).all fun k => match es[k]? with
  | some e => (posOf es e == some k) && Nat.blt e m && (Nat.beq k 0 || (match es[k - 1]?, ops[e]? with | some p, some o => (edg o).contains p | _, _ => false))
  | none => false
theorem chainOk_at {es : List Nat} {m : Nat} (h : chainOk ops es m = true) : ∀ k e, es[k]? = some e → posOf es e = some k ∧ e < m ∧ (k ≠ 0 → ∃ p o, es[k - 1]? = some p ∧ ops[e]? = some o ∧ p ∈ edg o) := by
 intro k e hk
 have hlt := (List.getElem?_eq_some_iff.1 hk).1
 have := (List.all_eq_true.1 h) k (List.mem_range.2 hlt)
 rw [hk] at this
 simp only [Bool.and_eq_true, beq_iff_eq, Bool.or_eq_true] at this
 obtain ⟨⟨h1, h2⟩, h3⟩ := this
 refine ⟨h1, by simpa [Nat.blt_eq] using h2, fun hne => ?_⟩
 rcases h3 with h3 | h3
 ·exact absurd (Nat.eq_of_beq_eq_true h3) hne
 ·cases hp : es[k - 1]? with
  | none => rw [hp] at h3; simp at h3
  | some p =>
   cases ho : ops[e]? with
   | none => rw [hp, ho] at h3; simp at h3
   | some o =>
    rw [hp, ho] at h3
    exact ⟨p, o, rfl, rfl, by simpa using h3⟩

def EffJ (es : List Nat) (J : Nat → G → Prop) (s i : Nat) (g g' : G) : Prop := match posOf es i with
 | some _ => g.le g' ∧ J (s + 1) g'
 | none => Fr0 g g'
def StepJ (F : Fence) (P : Program) (N : Nat) (ds : List Deferred) (ops : Array Oper) (Q : Exit → Act → World → Prop) (φs : List Fact) (l0 : Env) (gd : G) (es : List Nat) (J : Nat → G → Prop) (i : Nat) (o : Oper) : Prop :=
 ∀ s g', gd.le g' → J s g' → (∀ k, posOf es i = some k → s = k) → QA φs g' (needs ops o) l0 fun env =>
  match gdx ops env o.guard with
  | some true => OpR F P N ds o env g'.w Q fun v w' => ∃ g'', g''.w = w' ∧ EffJ es J s i g' g'' ∧ (fct φs i).p v g''
  | some false => posOf es i = none ∧ (fct φs i).p undef g'
  | none => False
def StepsJ (F : Fence) (P : Program) (N : Nat) (ds : List Deferred) (ops : Array Oper) (Q : Exit → Act → World → Prop) (φs : List Fact) (l0 : Env) (gd : G) (es : List Nat) (J : Nat → G → Prop) : Nat → List Oper → Prop
 | _, [] => True
 | i, o :: os => StepJ F P N ds ops Q φs l0 gd es J i o ∧ StepsJ F P N ds ops Q φs l0 gd es J (i + 1) os
theorem StepsJ.at {es : List Nat} {J : Nat → G → Prop} : ∀ {l : List Oper} {i0 : Nat}, StepsJ F P N ds ops Q φs l0 gd es J i0 l → ∀ (j : Nat) o, l[j]? = some o → StepJ F P N ds ops Q φs l0 gd es J (i0 + j) o
 | [], _, _, j, o, h => by simp at h
 | x :: l, i0, hs, 0, o, h => by
  simp only [List.getElem?_cons_zero, Option.some.injEq] at h
  subst h
  exact hs.1
 | x :: l, i0, hs, j + 1, o, h => by
  simp only [List.getElem?_cons_succ] at h
  have := StepsJ.at (i0 := i0 + 1) hs.2 j o h
  rw [show i0 + (j + 1) = i0 + 1 + j from by omega]
  exact this

theorem W_drawJ {id : Nat} {g : G} (hF : ∀ f, F.fn f) (hm : P.follows .mixedOrders = true) (φs : List Fact) (m : Nat) (outs : List (Nat × Nat)) (es : List Nat) (J : Nat → G → Prop) (hJ : ∀ s g g', Fr0 g g' → J s g → J s g') (hJ0 : J 0 g.dr) (hok : drawOk N ops l0 m = true) (hes : chainOk ops es m = true) (hsoft : SoftL [] 0 φs)
  (houts : outs.all (fun p => Nat.blt p.1 m && (dstOf ops p.1 == some p.2)) = true)
  (hsteps : StepsJ F P N ds ops Q φs l0 g.dr es J 0 (ops.toList.take m))
  (hend : ∀ g', g.dr.le g' → J es.length g' → QA φs g' outs l0 fun env => WL F P N ds ops Q (ops.toList.drop m) env g'.w) : W F P N ds (.region id ops true) Q l0 g.w := by
 intro a ha
 simp only [drawOk, Bool.and_eq_true, List.all_eq_true, List.mem_range] at hok
 obtain ⟨⟨⟨c1, c2⟩, c3⟩, c4⟩ := hok
 have c4 : m ≤ ops.size := Nat.le_of_ble_eq_true c4
 have k1 : ∀ i o, ops[i]? = some o → ∀ j ∈ edg o, j < i := by
  intro i o ho j hj
  have := c1 i (Array.getElem?_eq_some_iff.1 ho).1
  rw [ho] at this
  have := (List.all_eq_true.1 this) j hj
  simpa [Nat.blt_eq] using this
 have k2 : ∀ j o, m ≤ j → ops[j]? = some o → ∀ k, k < j → ∃ i' o', k < i' ∧ i' ≤ j ∧ ops[i']? = some o' ∧ k ∈ edg o' := by
  intro j o hj ho k hk
  have := c2 j (Array.getElem?_eq_some_iff.1 ho).1
  simp only [Bool.or_eq_true] at this
  rcases this with h | h
  ·have : j < m := by simpa [Nat.blt_eq] using h
   omega
  ·have := (List.all_eq_true.1 h) k (List.mem_range.2 hk)
   obtain ⟨i', h1, h2⟩ := List.any_eq_true.1 this
   simp only [Bool.and_eq_true] at h2
   have h3 := List.mem_range.1 h1
   cases ho' : ops[i']? with
   | none => rw [ho'] at h2; simp at h2
   | some o' =>
    rw [ho'] at h2
    exact ⟨i', o', by simpa [Nat.blt_eq] using h2.1, by omega, ho', by simpa using h2.2⟩
 -- where all that an operation waits for is listed, all ahead of it is
 have k4 : ∀ (listed : Array Bool), (∀ k o, listed.getD k false = true → ops[k]? = some o → ∀ e ∈ edg o, listed.getD e false = true) → ∀ j o, m ≤ j → ops[j]? = some o → (∀ e ∈ edg o, listed.getD e false = true) → ∀ k, k < j → listed.getD k false = true := by
  intro listed hcl j o hj ho hall
  have : ∀ d k, k < j → j - k = d → listed.getD k false = true := by
   intro d
   induction d using Nat.strongRecOn with
   | _ d ihd =>
    intro k hk hd
    obtain ⟨i', o', h1, h2, h3, h4⟩ := k2 j o hj ho k hk
    rcases Nat.lt_or_ge i' j with h | h
    ·exact hcl i' o' (ihd (j - i') (by omega) i' h rfl) h3 k h4
    ·obtain rfl : i' = j := by omega
     rw [ho] at h3
     obtain rfl := Option.some.inj h3
     exact hall k h4
  exact fun k hk => this _ k hk rfl
 have k3 : ∀ i, i < m → ∃ d, dstOf ops i = some d ∧ d < N ∧ lk l0 d = none ∧ ∀ j, j < m → j ≠ i → ∃ e, dstOf ops j = some e ∧ e ≠ d := by
  intro i hi
  have := c3 i hi
  cases hd : dstOf ops i with
  | none => simp [hd] at this
  | some d =>
   simp only [hd, Bool.and_eq_true, List.all_eq_true, List.mem_range, Bool.or_eq_true] at this
   refine ⟨d, rfl, by simpa [Nat.blt_eq] using this.1.1, by simpa using this.1.2, fun j hj hne => ?_⟩
   rcases this.2 j hj with h | h
   ·exact absurd (by simpa using h) hne
   ·cases he : dstOf ops j with
    | none => simp [he] at h
    | some e => exact ⟨e, rfl, by simpa [he] using h⟩
 have ch := chainOk_at hes
 let INV : Array Bool → G → Prop := fun listed g' => g.dr.le g' ∧ ∃ s, s ≤ es.length ∧ (∀ k e, es[k]? = some e → (listed.getD e false = true ↔ k < s)) ∧ J s g'
 have hfin : ∀ listed g', INV listed g' → (∀ j, j < m → listed.getD j false = true) → g.dr.le g' ∧ J es.length g' := by
  rintro listed g' ⟨h1, s, h2, h3, h4⟩ hall
  refine ⟨h1, ?_⟩
  have : s = es.length := by
   apply Classical.byContradiction
   intro hne
   have hlt : s < es.length := by omega
   have he := List.getElem?_eq_getElem hlt
   have := (h3 s _ he).1 (hall _ (ch s _ he).2.1)
   omega
  rw [← this]; exact h4
 refine wpIn_region_any hm ?_
 -- the relation
 have key : ∀ (fuel : Nat) (listed : Array Bool) (a : Act) (g' : G), listed.size = ops.size → INV listed g' → Fr N ds l0 a →
   (∀ i, i < m → listed.getD i false = true → ∃ d v, dstOf ops i = some d ∧ a.tmps[d]? = some v ∧ (fct φs i).p v g') → (∀ j, m ≤ j → j < ops.size → listed.getD j false = false) → (∀ k o, listed.getD k false = true → ops[k]? = some o → ∀ e ∈ edg o, listed.getD e false = true) →
   (ops.size - ((List.range ops.size).filter fun i => listed.getD i false).length ≤ fuel) → wpAnyIn F 0 P .any ops Q fuel listed a g'.w := by
  intro fuel
  induction fuel with
  | zero =>
   intro listed a g' hsz hf ha hfacts htail hcl hfuel
   have hall : ∀ j, j < ops.size → listed.getD j false = true := by
    have hlen : ((List.range ops.size).filter fun i => listed.getD i false).length = (List.range ops.size).length := by
     have := List.length_filter_le (fun i => listed.getD i false) (List.range ops.size)
     simp only [List.length_range] at this ⊢
     omega
    have := List.length_filter_eq_length_iff.1 hlen
    intro j hj
    exact this j (List.mem_range.2 hj)
   have hme : m = ops.size := by
    rcases Nat.lt_or_ge m ops.size with h | h
    ·have := htail m (Nat.le_refl _) h; rw [hall m h] at this; cases this
    ·omega
   have hfi := hfin listed g' hf (fun j hj => hall j (by omega))
   obtain ⟨env, hW, henv⟩ := QA_use outs (hend g' hfi.1 hfi.2) ha (fun p hp => by
    have := (List.all_eq_true.1 houts) p hp
    simp only [Bool.and_eq_true, beq_iff_eq] at this
    have hlt : p.1 < m := by simpa [Nat.blt_eq] using this.1
    obtain ⟨d, v, hd, hv, hfv⟩ := hfacts p.1 hlt (hall _ (by omega))
    rw [this.2] at hd
    obtain rfl := Option.some.inj hd
    exact ⟨v, hv, hfv⟩)
   refine tail_run k1 0 ops.size listed a g'.w hsz (Nat.le_refl _) (fun j o hj ho => ?_) (fun j hj => ⟨fun _ => hj, fun _ => hall j hj⟩) (by omega) (by rw [← hme]; exact hW a henv)
   have := (Array.getElem?_eq_some_iff.1 ho).1
   omega
  | succ fuel ih =>
   intro listed a g' hsz hf ha hfacts htail hcl hfuel
   by_cases hpre : ∀ j, j < m → listed.getD j false = true
   ·have hfi := hfin listed g' hf hpre
    obtain ⟨env, hW, henv⟩ := QA_use outs (hend g' hfi.1 hfi.2) ha (fun p hp => by
     have := (List.all_eq_true.1 houts) p hp
     simp only [Bool.and_eq_true, beq_iff_eq] at this
     have hlt : p.1 < m := by simpa [Nat.blt_eq] using this.1
     obtain ⟨d, v, hd, hv, hfv⟩ := hfacts p.1 hlt (hpre _ hlt)
     rw [this.2] at hd
     obtain rfl := Option.some.inj hd
     exact ⟨v, hv, hfv⟩)
    refine tail_run k1 (fuel + 1) m listed a g'.w hsz c4 (fun j o hj ho => k2 j o hj ho) (fun j hj => ⟨fun h => ?_, fun h => hpre j h⟩) ?_ (hW a henv)
    ·rcases Nat.lt_or_ge j m with h' | h'
     ·exact h'
     ·rw [htail j h' hj] at h; cases h
    ·have hle : ((List.range ops.size).filter fun i => listed.getD i false).length ≤ m := by
      have hsub : ((List.range ops.size).filter fun i => listed.getD i false).length ≤ ((List.range ops.size).filter fun i => decide (i < m)).length := by
       refine List.Sublist.length_le ?_
       rw [show ((List.range ops.size).filter fun i => listed.getD i false) = ((List.range ops.size).filter fun i => decide (i < m)).filter (fun i => listed.getD i false) from ?_]
       ·exact List.filter_sublist
       ·rw [List.filter_filter]
        refine List.filter_congr fun i hi => ?_
        have hi := List.mem_range.1 hi
        by_cases h : i < m
        ·simp [h]
        ·rw [htail i (by omega) hi]; simp
      have : ((List.range ops.size).filter fun i => decide (i < m)).length = m := by
       have e : ops.size = m + (ops.size - m) := by omega
       rw [e, List.range_add, List.filter_append, List.length_append, List.filter_eq_self.2 (by intro x hx; simpa using hx), List.filter_eq_nil_iff.2 (by
        intro x hx
        obtain ⟨y, _, rfl⟩ := List.mem_map.1 hx
        simp)]
       simp
      omega
     omega
   ·-- something of the first part is not listed: the least such is ready
    have hex : ∃ j, j < m ∧ listed.getD j false = false ∧ ∀ k, k < j → listed.getD k false = true := by
     have : ∃ j, j < m ∧ listed.getD j false = false := by
      apply Classical.byContradiction
      intro hno
      apply hpre
      intro j hj
      cases hc : listed.getD j false with
      | true => rfl
      | false => exact absurd ⟨j, hj, hc⟩ hno
     obtain ⟨j, hj⟩ := this
     induction j using Nat.strongRecOn with
     | _ j ihj =>
      by_cases hk : ∃ k, k < j ∧ listed.getD k false = false
      ·obtain ⟨k, hk1, hk2⟩ := hk
       exact ihj k hk1 ⟨by omega, hk2⟩
      ·refine ⟨j, hj.1, hj.2, fun k hk1 => ?_⟩
       cases hc : listed.getD k false with
       | true => rfl
       | false => exact absurd ⟨k, hk1, hc⟩ hk
    obtain ⟨j0, hj0, hj1, hj2⟩ := hex
    have hready : j0 ∈ Region.ready .any ops listed := by
     rw [ready_iff]
     have hlt : j0 < ops.size := by omega
     refine ⟨by rw [getD_lt (hsz ▸ hlt) true false]; exact hj1, _, Array.getElem?_eq_getElem hlt, fun k hk => hj2 k (k1 j0 _ (Array.getElem?_eq_getElem hlt) k hk)⟩
    refine ⟨fun h0 => (by rw [h0] at hready; cases hready), fun i hi => ?_⟩
    obtain ⟨h0, o, ho, hall⟩ := ready_iff.1 hi
    have hilt : i < ops.size := (Array.getElem?_eq_some_iff.1 ho).1
    rw [getD_lt (hsz ▸ hilt) true false] at h0
    have him : i < m := by
     rcases Nat.lt_or_ge i m with h | h
     ·exact h
     ·have := k4 listed hcl i o h ho hall j0 (by omega); rw [hj1] at this; cases this
    obtain ⟨d, hd, hdN, hd0, hdne⟩ := k3 i him
    have hod : o.dst = some d := by unfold dstOf at hd; rw [ho] at hd; exact hd
    have hstep := hsteps.at (i0 := 0) i o (by rw [List.getElem?_take_of_lt him]; simpa using ho)
    rw [Nat.zero_add] at hstep
    have hneeds : ∀ p ∈ needs ops o, ∃ v, a.tmps[p.2]? = some v ∧ (fct φs p.1).p v g' := by
     intro p hp
     unfold needs at hp
     obtain ⟨j, hj, hjp⟩ := List.mem_filterMap.1 hp
     cases hdj : dstOf ops j with
     | none => simp [hdj] at hjp
     | some e =>
      simp only [hdj] at hjp
      have hjm : j < m := by have := k1 i o ho j hj; omega
      obtain ⟨d', v, hd', hv, hfv⟩ := hfacts j hjm (hall j hj)
      rw [hdj] at hd'
      obtain rfl := Option.some.inj hd'
      have hjp2 : ∀ (c : Bool) (q : Nat × Nat), (bif c then some q else none) = some p → q = p := by
       intro c q h
       cases c with
       | true => exact Option.some.inj h
       | false => cases h
      obtain rfl := hjp2 _ _ hjp
      exact ⟨v, hv, hfv⟩
    obtain ⟨hgl, s, hs1, hs2, hs3⟩ := hf
    have hpos : ∀ k, posOf es i = some k → s = k := by
     intro k hk
     have hek := posOf_some hk
     have h1 : ¬ k < s := fun h => by have := (hs2 k i hek).2 h; rw [this] at h0; cases h0
     rcases Nat.eq_zero_or_pos k with h | h
     ·omega
     ·obtain ⟨p, o', hp1, hp2, hp3⟩ := (ch k i hek).2.2 (by omega)
      rw [ho] at hp2
      obtain rfl := Option.some.inj hp2
      have := (hs2 (k - 1) p hp1).1 (hall p hp3)
      omega
    obtain ⟨env, hk, henv⟩ := QA_use (needs ops o) (hstep s g' hgl hs3 hpos) ha hneeds
    -- what is asked behind the operation
    have hnext : ∀ (a' : Act) (g'' : G) (v : Value), a' = a.put o.dst v → EffJ es J s i g' g'' → (fct φs i).p v g'' → wpAnyIn F 0 P .any ops Q fuel (listed.setIfInBounds i true) a' g''.w := by
     intro a' g'' v he hf' hfv
     have hput : ∀ t, t ≠ d → a'.tmps[t]? = a.tmps[t]? := fun t ht => by
      rw [he, hod]
      simp only [Act.put]
      rw [Array.getElem?_setIfInBounds_ne (fun e => ht e.symm)]
     have hself : a'.tmps[d]? = some v := by
      rw [he, hod]
      simp only [Act.put]
      rw [Array.getElem?_setIfInBounds_self, if_pos (by rw [ha.size]; exact hdN)]
     have hset : ∀ k, k ≠ i → (listed.setIfInBounds i true).getD k false = listed.getD k false := fun k hk => by
      simp only [Array.getD_eq_getD_getElem?]
      rw [Array.getElem?_setIfInBounds_ne (fun e => hk e.symm)]
     have hsetself : (listed.setIfInBounds i true).getD i false = true := by simp [hsz, hilt]
     have hgle : g'.le g'' := by
      unfold EffJ at hf'
      split at hf'
      ·exact hf'.1
      ·exact hf'.le
     have hinv : INV (listed.setIfInBounds i true) g'' := by
      refine ⟨hgl.trans hgle, ?_⟩
      unfold EffJ at hf'
      cases hpi : posOf es i with
      | none =>
       rw [hpi] at hf'
       refine ⟨s, hs1, fun k e hke => ?_, hJ s _ _ hf' hs3⟩
       have hne : e ≠ i := fun h => posOf_none hpi k (by rw [← h]; exact hke)
       rw [hset e hne]; exact hs2 k e hke
      | some k0 =>
       rw [hpi] at hf'
       have hsk := hpos k0 hpi
       have hek := posOf_some hpi
       have hlt := (List.getElem?_eq_some_iff.1 hek).1
       refine ⟨s + 1, by omega, fun k e hke => ?_, hf'.2⟩
       by_cases hei : e = i
       ·subst hei
        have h1 := (ch k e hke).1
        rw [hpi] at h1
        obtain rfl := Option.some.inj h1
        exact ⟨fun _ => by omega, fun _ => hsetself⟩
       ·rw [hset e hei, hs2 k e hke]
        have hkk : k ≠ k0 := fun h => by subst h; rw [hek] at hke; exact hei (Option.some.inj hke).symm
        omega
     refine ih _ a' g'' (by simpa using hsz) hinv ⟨by rw [he, hod]; exact ha.defers, by rw [he, hod]; simp [Act.put, ha.size], fun t u hu => ?_⟩ (fun k hk hkl => ?_) (fun j hj hjs => ?_) (fun k o' hk hko e he => ?_) ?_
     ·have htd : t ≠ d := fun e => by subst e; rw [hd0] at hu; cases hu
      rw [hput t htd]; exact ha.get t u hu
     ·by_cases hki : k = i
      ·subst hki
       exact ⟨d, v, hd, hself, hfv⟩
      ·rw [hset k hki] at hkl
       obtain ⟨d', v', hd', hv', hfv'⟩ := hfacts k hk hkl
       obtain ⟨e, he1, he2⟩ := hdne k hk hki
       rw [hd'] at he1
       obtain rfl := Option.some.inj he1
       exact ⟨d', v', hd', by rw [hput d' he2]; exact hv', (SoftL.at hsoft k).elim (fun h => by simp at h) fun h => h _ _ _ hgle hfv'⟩
     ·rw [hset j (by omega)]
      exact htail j hj hjs
     ·have hle : ∀ x, listed.getD x false = true → (listed.setIfInBounds i true).getD x false = true := fun x hx => by
       by_cases hxi : x = i
       ·subst hxi; exact hsetself
       ·rw [hset x hxi]; exact hx
      by_cases hki : k = i
      ·subst hki
       rw [ho] at hko
       obtain rfl := Option.some.inj hko
       exact hle e (hall e he)
      ·rw [hset k hki] at hk
       exact hle e (hcl k o' hk hko e he)
     ·have hlt : ((List.range ops.size).filter fun k => listed.getD k false).length < ((List.range ops.size).filter fun k => (listed.setIfInBounds i true).getD k false).length := by
       have hsub : List.Sublist ((List.range ops.size).filter fun k => listed.getD k false) ((List.range ops.size).filter fun k => (listed.setIfInBounds i true).getD k false) := by
        have e : ((List.range ops.size).filter fun k => listed.getD k false) = ((List.range ops.size).filter fun k => (listed.setIfInBounds i true).getD k false).filter (fun k => listed.getD k false) := by
         rw [List.filter_filter]
         refine List.filter_congr fun k _ => ?_
         by_cases hki : k = i
         ·subst hki; rw [hsetself]; simp
         ·rw [hset k hki]; simp
        rw [e]
        exact List.filter_sublist
       refine Nat.lt_of_le_of_ne hsub.length_le fun e => ?_
       have := hsub.eq_of_length e
       have hin : i ∈ ((List.range ops.size).filter fun k => (listed.setIfInBounds i true).getD k false) := List.mem_filter.2 ⟨List.mem_range.2 hilt, hsetself⟩
       rw [← this] at hin
       have := (List.mem_filter.1 hin).2
       rw [h0] at this
       cases this
      omega
    unfold wpOpIn
    rw [ho]
    simp only
    cases hg : gdx ops env o.guard with
    | none => rw [hg] at hk; exact hk.elim
    | some b =>
     have hwant : Region.wanted o (yielded ops a.tmps) = b := gdx_spec (l := env) (o := o) hg henv
     rw [hg] at hk
     cases b with
     | true =>
      rw [if_pos hwant]
      exact Oper.wpIn_mono (fun a' w' ⟨v, he, g'', hw, hf', hfv⟩ => hw ▸ hnext a' g'' v he hf' hfv) (hk a henv)
     | false =>
      rw [if_neg (by rw [hwant]; simp)]
      exact ⟨fun f _ => hF f, hnext _ g' undef rfl (by unfold EffJ; rw [hk.1]; exact Fr0.refl _) hk.2⟩
 refine key ops.size _ a g.dr (by simp) ⟨G.le.refl _, 0, Nat.zero_le _, fun k e _ => ⟨fun h => by
  simp only [Array.getD_eq_getD_getElem?, Array.getElem?_replicate] at h
  split at h <;> simp at h, fun h => by omega⟩, hJ0⟩ ha (fun i hi hl => ?_) (fun j _ hj => by simp [hj]) (fun k o hl => ?_) (by omega)
 ·simp only [Array.getD_eq_getD_getElem?, Array.getElem?_replicate] at hl
  split at hl <;> simp at hl
 ·simp only [Array.getD_eq_getD_getElem?, Array.getElem?_replicate] at hl
  split at hl <;> simp at hl


/-! ### Its steps -/
variable {es : List Nat} {J : Nat → G → Prop} {os : List Oper} {o : Oper} {l : Env} {g : G}
theorem J_cons {i : Nat} (h : StepJ F P N ds ops Q φs l0 gd es J i o) (h2 : StepsJ F P N ds ops Q φs l0 gd es J (i + 1) os) : StepsJ F P N ds ops Q φs l0 gd es J i (o :: os) := ⟨h, h2⟩
theorem J_nil {i : Nat} : StepsJ F P N ds ops Q φs l0 gd es J i [] := trivial
/-- One that changes nothing. -/
theorem J_free {i : Nat} {js : List (Nat × Nat)} (hj : needs ops o = js) (hp : posOf es i = none) (h : ∀ s g', gd.le g' → J s g' → QA φs g' js l0 (DK F P N ds ops Q (fct φs i) g' o)) : StepJ F P N ds ops Q φs l0 gd es J i o := by
 subst hj
 intro s g' hf hs _
 refine QA_mono _ _ _ _ (fun env hd => ?_) (h s g' hf hs)
 unfold DK at hd
 unfold EffJ
 rw [hp]
 cases hg : gdx ops env o.guard with
 | none => rw [hg] at hd; exact hd
 | some b =>
  rw [hg] at hd
  cases b with
  | true => exact hd
  | false => exact ⟨rfl, hd⟩
/-- One of the chain. -/
def DJ (F : Fence) (P : Program) (N : Nat) (ds : List Deferred) (ops : Array Oper) (Q : Exit → Act → World → Prop) (φ : Fact) (g' : G) (J' : G → Prop) (o : Oper) (env : Env) : Prop :=
 gdx ops env o.guard = some true ∧ OpR F P N ds o env g'.w Q fun v w' => ∃ g'', g''.w = w' ∧ (g'.le g'' ∧ J' g'') ∧ φ.p v g''
theorem J_eat {i : Nat} (k : Nat) {js : List (Nat × Nat)} (hj : needs ops o = js) (hp : posOf es i = some k) (h : ∀ g', gd.le g' → J k g' → QA φs g' js l0 (DJ F P N ds ops Q (fct φs i) g' (J (k + 1)) o)) : StepJ F P N ds ops Q φs l0 gd es J i o := by
 subst hj
 intro s g' hf hs hk
 obtain rfl := hk k hp
 refine QA_mono _ _ _ _ (fun env hd => ?_) (h g' hf hs)
 obtain ⟨hg, hd⟩ := hd
 rw [hg]
 unfold EffJ
 rw [hp]
 exact hd
end Go.K

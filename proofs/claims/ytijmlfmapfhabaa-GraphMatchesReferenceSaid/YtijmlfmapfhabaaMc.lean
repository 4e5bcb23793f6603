/- What the reference computes, in plain Lean: ways round by round, the first shortest cycle, the table of ways back. -/
import Derived.Test.YtijmlfmapfhabaaMb

/- Ways made longer round by round until nothing becomes better are the quickest ones, in plain Lean. -/
namespace Go.Proofs.Ytijmlfmapfhabaa

theorem IsWay.time_le {f : Flow} (hval : valid f = true) {a : Int} (ha : InR f a) {v : Int} {w : Wy} (h : IsWay f a v w) : 0 ≤ w.time ∧ w.time ≤ 20000 * ((w.steps.length : Int) + 1) := by
  have hmv := valid_mv hval
  induction h with
  | base _ => simp only [List.length_nil]; omega
  | step hu _ ih =>
    have := valid_min hval (hu.inR hval ha)
    simp only [ext, List.length_append, List.length_cons, List.length_nil]
    omega

/-- A quickest way that is not empty is a quickest way made longer. -/
theorem ways_last {f : Flow} (hval : valid f = true) {a : Int} (ha : InR f a) {v : Int} (hv : InR f v) {w : Wy} (h : og (ways f a) v = some w) (hne : w.steps ≠ []) :
    ∃ u w', InR f u ∧ og (ways f a) u = some w' ∧ w = ext f w' u ∧ v ∈ afterL (stepD f u) := by
  have hw := ways_is hval ha hv h
  cases hw with
  | base _ => exact absurd rfl hne
  | step hu hvu =>
    rename_i u w0
    have hur := hu.inR hval ha
    obtain ⟨w', h1, h2⟩ := ways_least hval ha hu
    refine ⟨u, w', hur, h1, ?_, hvu⟩
    obtain ⟨w2, h3, h4⟩ := ways_least hval ha (IsWay.step (ways_is hval ha hur h1) hvu)
    rw [h] at h3
    obtain rfl := Option.some.inj h3
    exact Le.antisymm h4 (ext_mono f u h2)
theorem ways_nil {f : Flow} (hval : valid f = true) {a : Int} (ha : InR f a) {v : Int} (hv : InR f v) {w : Wy} (h : og (ways f a) v = some w) (hne : w.steps = []) : v ∈ afterL (stepD f a) ∧ w = ⟨f.moveMin, []⟩ := by
  have hw := ways_is hval ha hv h
  cases hw with
  | base hb => exact ⟨hb, rfl⟩
  | step hu hvu => simp [ext] at hne

/-- What holds behind r rounds, and in the next one up to step u. -/
structure PInv (f : Flow) (a : Int) (out : List (Option Wy)) (r u : Nat) : Prop where
  len : out.length = f.steps.length
  ok : ∀ v, InR f v → ∀ w, og out v = some w → IsWay f a v w ∧ w.steps.length ≤ 40 * r + u
  fin : ∀ v, InR f v → ∀ w, og (ways f a) v = some w → (w.steps.length ≤ r ∨ (w.steps.length = r + 1 ∧ lastD w.steps < u)) → og out v = some w

/-- In a round: the flag, and what it says. -/
structure PRnd (f : Flow) (a : Int) (out : List (Option Wy)) (r u : Nat) (ch : Bool) : Prop where
  inv : PInv f a out r u
  yes : ch = true → r < f.steps.length
  no : ch = false → ∀ q, InR f q → q < u → ∀ w, og out q = some w → ∀ v ∈ afterL (stepD f q), better (ext f w q) (og out v) = false

/-- At step u of a round, the first i of those that follow being done. -/
structure PMid (f : Flow) (a : Int) (out : List (Option Wy)) (r u i : Nat) (wu : Wy) (ch : Bool) : Prop where
  len : out.length = f.steps.length
  ok : ∀ v, InR f v → ∀ w, og out v = some w → IsWay f a v w ∧ w.steps.length ≤ 40 * r + u + 1
  fin : ∀ v, InR f v → ∀ w, og (ways f a) v = some w → (w.steps.length ≤ r ∨ (w.steps.length = r + 1 ∧ lastD w.steps < u)) → og out v = some w
  yes : ch = true → r < f.steps.length
  no : ch = false → ∀ q, InR f q → q < u → ∀ w, og out q = some w → ∀ v ∈ afterL (stepD f q), better (ext f w q) (og out v) = false
  way : og out u = some wu
  wul : wu.steps.length ≤ 40 * r + u
  got : ∀ v ∈ (afterL (stepD f u)).take i, ∀ w, og (ways f a) v = some w → w.steps.length = r + 1 → lastD w.steps = u → og out v = some w
  same : ch = false → ∀ v ∈ (afterL (stepD f u)).take i, better (ext f wu u) (og out v) = false

theorem PRnd.enter {f : Flow} {a : Int} {out : List (Option Wy)} {r u : Nat} {ch : Bool} (h : PRnd f a out r u ch) (hu : InR f (u : Int)) {wu : Wy} (hw : og out u = some wu) : PMid f a out r u 0 wu ch :=
  ⟨h.inv.len, fun v hv w hw => ⟨(h.inv.ok v hv w hw).1, by have := (h.inv.ok v hv w hw).2; omega⟩, h.inv.fin, h.yes, h.no, hw, (h.inv.ok _ hu wu hw).2, fun v hv => by simp at hv, fun _ v hv => by simp at hv⟩
theorem PMid.leave {f : Flow} {a : Int} {out : List (Option Wy)} {r u : Nat} {wu : Wy} {ch : Bool} (hval : valid f = true) (ha : InR f a) (h : PMid f a out r u (afterL (stepD f u)).length wu ch) : PRnd f a out r (u + 1) ch := by
  refine ⟨⟨h.len, fun v hv w hw => ⟨(h.ok v hv w hw).1, by have := (h.ok v hv w hw).2; omega⟩, fun v hv w hw hc => ?_⟩, h.yes, fun hch q hq hqu w hw v hv => ?_⟩
  · by_cases e : w.steps.length = r + 1 ∧ lastD w.steps = u
    · have hne : w.steps ≠ [] := fun e' => by rw [e'] at e; simp at e
      obtain ⟨u', w', h1, h2, h3, h4⟩ := ways_last hval ha hv hw hne
      have : u' = u := by rw [← e.2, h3]; simp only [ext]; rw [lastD_snoc]
      subst this
      exact h.got v (by rw [List.take_of_length_le (Nat.le_refl _)]; exact h4) w hw e.1 e.2
    · exact h.fin v hv w hw (by omega)
  · by_cases e : q = u
    · subst e
      rw [h.way] at hw
      obtain rfl := Option.some.inj hw
      exact h.same hch v (by rw [List.take_of_length_le (Nat.le_refl _)]; exact hv)
    · exact h.no hch q hq (by omega) w hw v hv
theorem PRnd.skip {f : Flow} {a : Int} {out : List (Option Wy)} {r u : Nat} {ch : Bool} (hval : valid f = true) (ha : InR f a) (h : PRnd f a out r u ch) (hw : og out u = none) : PRnd f a out r (u + 1) ch := by
  refine ⟨⟨h.inv.len, fun v hv w hw => ⟨(h.inv.ok v hv w hw).1, by have := (h.inv.ok v hv w hw).2; omega⟩, fun v hv w hww hc => ?_⟩, h.yes, fun hch q hq hqu w hww v hv => ?_⟩
  · by_cases e : w.steps.length = r + 1 ∧ lastD w.steps = u
    · have hne : w.steps ≠ [] := fun e' => by rw [e'] at e; simp at e
      obtain ⟨u', w', h1, h2, h3, h4⟩ := ways_last hval ha hv hww hne
      have : u' = u := by rw [← e.2, h3]; simp only [ext]; rw [lastD_snoc]
      subst this
      have hl : w'.steps.length = r := by have := e.1; rw [h3] at this; simp [ext] at this; exact this
      have := h.inv.fin _ h1 w' h2 (.inl (by omega))
      rw [hw] at this; cases this
    · exact h.inv.fin v hv w hww (by omega)
  · by_cases e : q = u
    · subst e; rw [hw] at hww; cases hww
    · exact h.no hch q hq (by omega) w hww v hv

theorem PMid.next {f : Flow} (hval : valid f = true) {a : Int} (ha : InR f a) {out : List (Option Wy)} {r u i : Nat} {wu : Wy} {ch : Bool} (hu : InR f (u : Int)) (h : PMid f a out r u i wu ch) (hi : i < (afterL (stepD f u)).length) :
    let v := (afterL (stepD f u))[i]
    (better (ext f wu u) (og out v) = true → PMid f a (out.set v.toNat (some (ext f wu u))) r u (i + 1) wu true) ∧ (better (ext f wu u) (og out v) = false → PMid f a out r u (i + 1) wu ch) := by
  intro v
  have hvm : v ∈ afterL (stepD f u) := List.getElem_mem hi
  have hvr : InR f v := after_range hval hu.1 hu.2 v hvm
  have htk : (afterL (stepD f u)).take (i + 1) = (afterL (stepD f u)).take i ++ [v] := List.take_succ_eq_append_getElem hi
  have hway : IsWay f a v (ext f wu u) := .step (h.ok _ hu wu h.way).1 hvm
  obtain ⟨w0, hw0, hle0⟩ := ways_least hval ha hway
  have hvo : 0 ≤ v ∧ v < out.length := by rw [h.len]; exact hvr
  -- what the quickest way to v must be if its last step is u
  have key : ∀ w, og (ways f a) v = some w → w.steps.length = r + 1 → lastD w.steps = u → w = ext f wu u := fun w hw h1 h2 => by
    have hne : w.steps ≠ [] := fun e' => by rw [e'] at h1; simp at h1
    obtain ⟨u', w', k1, k2, k3, k4⟩ := ways_last hval ha hvr hw hne
    have : u' = u := by rw [← h2, k3]; simp only [ext]; rw [lastD_snoc]
    subst this
    have hl : w'.steps.length = r := by rw [k3] at h1; simp [ext] at h1; exact h1
    have := h.fin _ k1 w' k2 (.inl (by omega))
    rw [h.way] at this
    rw [k3, Option.some.inj this]
  constructor
  · intro hb
    rw [better_iff] at hb
    have hset : ∀ {q}, InR f q → og (out.set v.toNat (some (ext f wu u))) q = if q = v then some (ext f wu u) else og out q := fun hq => og_set hvo hq.1 _
    have hnot : ∀ w, og (ways f a) v = some w → og out v ≠ some w := fun w hw e => by
      rw [hw0] at hw
      obtain rfl := Option.some.inj hw
      exact not_Lt.2 hle0 (hb w0 e)
    have huv : (u : Int) ≠ v := fun e => by
      have := hb wu (by rw [← e]; exact h.way)
      exact not_Lt.2 (ext_lt hval hu wu).le this
    refine ⟨by rw [List.length_set]; exact h.len, fun q hq w hw => ?_, fun q hq w hw hc => ?_, fun _ => ?_, fun hch => (by cases hch), ?_, h.wul, fun q hq w hw h1 h2 => ?_, fun hch => (by cases hch)⟩
    · rw [hset hq] at hw
      by_cases e : q = v
      · rw [if_pos e] at hw
        obtain rfl := Option.some.inj hw
        rw [e]
        refine ⟨hway, ?_⟩
        have := h.wul
        simp only [ext, List.length_append, List.length_cons, List.length_nil]; omega
      · rw [if_neg e] at hw; exact h.ok q hq w hw
    · rw [hset hq]
      by_cases e : q = v
      · subst e
        exact absurd (h.fin _ hq w hw hc) (hnot w hw)
      · rw [if_neg e]; exact h.fin q hq w hw hc
    · have hlen := (ways_bound hval ha hvr hw0).2
      rcases Nat.lt_or_ge r w0.steps.length with h1 | h1
      · omega
      · exact absurd (h.fin v hvr w0 hw0 (.inl h1)) (hnot w0 hw0)
    · rw [hset hu, if_neg huv]; exact h.way
    · have hqr : InR f q := after_range hval hu.1 hu.2 q (List.mem_of_mem_take hq)
      rw [hset hqr]
      by_cases e : q = v
      · subst e; rw [if_pos rfl, key w hw h1 h2]
      · rw [if_neg e]
        rw [htk] at hq
        rcases List.mem_append.1 hq with hq | hq
        · exact h.got q hq w hw h1 h2
        · rw [List.mem_singleton] at hq; exact absurd hq e
  · intro hb
    refine ⟨h.len, h.ok, h.fin, h.yes, h.no, h.way, h.wul, fun q hq w hw h1 h2 => ?_, fun hch q hq => ?_⟩
    · rw [htk] at hq
      rcases List.mem_append.1 hq with hq | hq
      · exact h.got q hq w hw h1 h2
      · rw [List.mem_singleton] at hq
        subst hq
        have hk := key w hw h1 h2
        cases ho : og out v with
        | none => rw [ho] at hb; simp [better] at hb
        | some y =>
          have hn : ¬ Lt (ext f wu u) y := fun hl => by
            have : better (ext f wu u) (og out v) = true := (better_iff _ _).2 fun x hx => by rw [ho] at hx; obtain rfl := Option.some.inj hx; exact hl
            rw [hb] at this; cases this
          obtain ⟨w2, h3, h4⟩ := ways_least hval ha (h.ok v hvr y ho).1
          rw [hw] at h3
          obtain rfl := Option.some.inj h3
          rw [← hk] at hn
          rw [Le.antisymm (not_Lt.1 hn) h4]
    · rw [htk] at hq
      rcases List.mem_append.1 hq with hq | hq
      · exact h.same hch q hq
      · rw [List.mem_singleton] at hq; subst hq; exact hb

theorem PRnd.round {f : Flow} (hval : valid f = true) {a : Int} (ha : InR f a) {out : List (Option Wy)} {r : Nat} {ch : Bool} (h : PRnd f a out r f.steps.length ch) : PInv f a out (r + 1) 0 := by
  have hn := valid_n hval
  refine ⟨h.inv.len, fun v hv w hw => ⟨(h.inv.ok v hv w hw).1, by have := (h.inv.ok v hv w hw).2; omega⟩, fun v hv w hw hc => ?_⟩
  rcases hc with hc | ⟨hc, hl⟩
  · by_cases e : w.steps.length = r + 1
    · have hne : w.steps ≠ [] := fun e' => by rw [e'] at e; simp at e
      obtain ⟨u', w', h1, h2, h3, h4⟩ := ways_last hval ha hv hw hne
      have : lastD w.steps = u' := by rw [h3]; simp only [ext]; rw [lastD_snoc]
      exact h.inv.fin v hv w hw (.inr ⟨e, by rw [this]; exact h1.2⟩)
    · exact h.inv.fin v hv w hw (.inl (by omega))
  · have hne : w.steps ≠ [] := fun e' => by rw [e'] at hc; simp at hc
    obtain ⟨u', w', h1, h2, h3, h4⟩ := ways_last hval ha hv hw hne
    have : lastD w.steps = u' := by rw [h3]; simp only [ext]; rw [lastD_snoc]
    have := h1.1
    omega
theorem PInv.begin {f : Flow} {a : Int} {out : List (Option Wy)} {r : Nat} (h : PInv f a out r 0) : PRnd f a out r 0 false :=
  ⟨h, fun h => (by cases h), fun _ q hq h0 => by have := hq.1; omega⟩

theorem PRnd.fixed {f : Flow} (hval : valid f = true) {a : Int} (ha : InR f a) {out : List (Option Wy)} {r : Nat} (h : PRnd f a out r f.steps.length false) : out = ways f a := by
  have hl := ways_length hval ha
  have key : ∀ k, ∀ v, InR f v → ∀ w, og (ways f a) v = some w → w.steps.length = k → og out v = some w := by
    intro k
    induction k with
    | zero => intro v hv w hw hk; exact h.inv.fin v hv w hw (.inl (by omega))
    | succ k ih =>
      intro v hv w hw hk
      have hne : w.steps ≠ [] := fun e' => by rw [e'] at hk; simp at hk
      obtain ⟨u, w', h1, h2, h3, h4⟩ := ways_last hval ha hv hw hne
      have hl : w'.steps.length = k := by rw [h3] at hk; simp [ext] at hk; exact hk
      have h5 := h.no rfl u h1 h1.2 w' (ih u h1 w' h2 hl) v h4
      rw [← h3] at h5
      cases ho : og out v with
      | none => rw [ho] at h5; simp [better] at h5
      | some y =>
        have hn : ¬ Lt w y := fun hl => by
          have : better w (og out v) = true := (better_iff _ _).2 fun x hx => by rw [ho] at hx; obtain rfl := Option.some.inj hx; exact hl
          rw [h5] at this; cases this
        obtain ⟨w2, h6, h7⟩ := ways_least hval ha (h.inv.ok v hv y ho).1
        rw [hw] at h6
        obtain rfl := Option.some.inj h6
        rw [Le.antisymm (not_Lt.1 hn) h7]
  have hog : ∀ v, InR f v → og out v = og (ways f a) v := fun v hv => by
    cases hw : og (ways f a) v with
    | some w => exact key _ v hv w hw rfl
    | none =>
      cases ho : og out v with
      | none => rfl
      | some y =>
        obtain ⟨w2, h6, _⟩ := ways_least hval ha (h.inv.ok v hv y ho).1
        rw [hw] at h6; cases h6
  apply List.ext_getElem (by rw [h.inv.len, hl])
  intro i h1 h2
  have hh := hog (i : Int) ⟨by omega, by have := h.inv.len; omega⟩
  unfold og at hh
  rw [List.getD_eq_getElem?_getD, List.getD_eq_getElem?_getD, Int.toNat_natCast, List.getElem?_eq_getElem h1, List.getElem?_eq_getElem h2] at hh
  exact hh

/-- The beginning: the ways of one move. -/
structure PSt (f : Flow) (a : Int) (out : List (Option Wy)) (i : Nat) : Prop where
  len : out.length = f.steps.length
  ok : ∀ v, InR f v → og out v = if v ∈ (afterL (stepD f a)).take i then some ⟨f.moveMin, []⟩ else none
theorem PSt.zero (f : Flow) (a : Int) : PSt f a (List.replicate f.steps.length none) 0 :=
  ⟨by simp, fun v _ => by unfold og; rw [List.getD_eq_getElem?_getD, List.getElem?_replicate]; split <;> simp⟩
theorem PSt.next {f : Flow} (hval : valid f = true) {a : Int} (ha : InR f a) {out : List (Option Wy)} {i : Nat} (h : PSt f a out i) (hi : i < (afterL (stepD f a)).length) :
    PSt f a (out.set ((afterL (stepD f a))[i]).toNat (some ⟨f.moveMin, []⟩)) (i + 1) := by
  have hvr : InR f (afterL (stepD f a))[i] := after_range hval ha.1 ha.2 _ (List.getElem_mem hi)
  refine ⟨by rw [List.length_set]; exact h.len, fun v hv => ?_⟩
  rw [og_set (by rw [h.len]; exact hvr) hv.1, List.take_succ_eq_append_getElem hi, h.ok v hv]
  by_cases e : v = (afterL (stepD f a))[i]
  · rw [if_pos e, if_pos (List.mem_append.2 (.inr (by rw [e]; exact List.mem_singleton_self _)))]
  · rw [if_neg e]
    by_cases e2 : v ∈ (afterL (stepD f a)).take i
    · rw [if_pos e2, if_pos (List.mem_append.2 (.inl e2))]
    · rw [if_neg e2, if_neg fun h => (List.mem_append.1 h).elim e2 fun h => e (List.mem_singleton.1 h)]
theorem PSt.start {f : Flow} (hval : valid f = true) {a : Int} (ha : InR f a) {out : List (Option Wy)} (h : PSt f a out (afterL (stepD f a)).length) : PInv f a out 0 0 := by
  have hok : ∀ v, InR f v → og out v = if v ∈ afterL (stepD f a) then some ⟨f.moveMin, []⟩ else none := fun v hv => by
    have := h.ok v hv
    rw [List.take_of_length_le (Nat.le_refl _)] at this
    exact this
  refine ⟨h.len, fun v hv w hw => ?_, fun v hv w hw hc => ?_⟩
  · rw [hok v hv] at hw
    split at hw
    · rename_i hm
      obtain rfl := Option.some.inj hw
      exact ⟨.base hm, by simp⟩
    · cases hw
  · by_cases hne : w.steps = []
    · obtain ⟨h1, h2⟩ := ways_nil hval ha hv hw hne
      rw [hok v hv, if_pos h1, h2]
    · obtain ⟨u', w', h1, h2, h3, h4⟩ := ways_last hval ha hv hw hne
      have : lastD w.steps = u' := by rw [h3]; simp only [ext]; rw [lastD_snoc]
      have := h1.1
      have : w.steps.length = w'.steps.length + 1 := by rw [h3]; simp [ext]
      omega
end Go.Proofs.Ytijmlfmapfhabaa

/- The first shortest cycle, in plain Lean: the order of paths. -/
namespace Go.Proofs.Ytijmlfmapfhabaa

/-- Paths by length, then by their first difference. -/
def PLt (a b : List Int) : Prop := a.length < b.length ∨ (a.length = b.length ∧ cmpL a b < 0)
def PLe (a b : List Int) : Prop := PLt a b ∨ a = b
theorem PLt_iff (a b : List Int) : PLt a b ↔ Lt ⟨0, a⟩ ⟨0, b⟩ := by
  rw [Lt_iff]; unfold PLt
  constructor
  · intro h; exact .inr ⟨rfl, h⟩
  · rintro (h | ⟨_, h⟩)
    · simp at h
    · exact h
theorem PLe_iff (a b : List Int) : PLe a b ↔ Le ⟨0, a⟩ ⟨0, b⟩ := by
  unfold PLe
  rw [PLt_iff, Le_iff]
  simp
theorem PLt.trans {a b c : List Int} (h1 : PLt a b) (h2 : PLt b c) : PLt a c := by
  rw [PLt_iff] at *; exact h1.trans h2
theorem PLe.trans {a b c : List Int} (h1 : PLe a b) (h2 : PLe b c) : PLe a c := by
  rw [PLe_iff] at *; exact h1.trans h2
theorem PLe.refl (a : List Int) : PLe a a := .inr rfl
theorem PLe.antisymm {a b : List Int} (h1 : PLe a b) (h2 : PLe b a) : a = b := by
  rw [PLe_iff] at h1 h2
  have := h1.antisymm h2
  simpa using this
theorem not_PLt {a b : List Int} : ¬ PLt a b ↔ PLe b a := by rw [PLt_iff, PLe_iff]; exact not_Lt
theorem PLt.le {a b : List Int} (h : PLt a b) : PLe a b := .inl h
theorem PLt.irrefl (a : List Int) : ¬ PLt a a := not_PLt.2 (.refl a)
/-- What is behind two paths of one order makes no difference where they differ. -/
theorem PLt.snoc {a b : List Int} (h : PLt a b) (x y : Int) : PLt (a ++ [x]) (b ++ [y]) := by
  rcases h with h | ⟨h, h2⟩
  · exact .inl (by simpa using h)
  · refine .inr ⟨by simpa using h, ?_⟩
    have gen : ∀ (a b : List Int), a.length = b.length → cmpL a b < 0 → cmpL (a ++ [x]) (b ++ [y]) < 0 := by
      intro a
      induction a with
      | nil => intro b hb h; cases b with
        | nil => simp [cmpL] at h
        | cons _ _ => simp at hb
      | cons c r ih => intro b hb h; cases b with
        | nil => simp at hb
        | cons d s =>
          simp only [List.cons_append, cmpL] at h ⊢
          by_cases e : cmpI c d = 0
          · rw [if_pos e] at h ⊢
            exact ih s (by simpa using hb) h
          · rw [if_neg e] at h ⊢; exact h
    exact gen a b h h2
theorem PLe.snoc {a b : List Int} (h : PLe a b) (x : Int) : PLe (a ++ [x]) (b ++ [x]) := by
  rcases h with h | rfl
  · exact .inl (h.snoc x x)
  · exact .refl _
theorem PLt.last (a : List Int) {x y : Int} (h : x < y) : PLt (a ++ [x]) (a ++ [y]) := by
  refine .inr ⟨by simp, ?_⟩
  induction a with
  | nil => simp [cmpL, cmpI, h]
  | cons c r ih =>
    simp only [List.cons_append, cmpL]
    rw [if_pos (by simp [cmpI])]
    exact ih
end Go.Proofs.Ytijmlfmapfhabaa

/- The search for a shortest cycle finds the first one, in plain Lean. -/
namespace Go.Proofs.Ytijmlfmapfhabaa

/-- Paths from a step over steps that a cycle may go through. -/
inductive AP (f : Flow) (live : List Bool) (first : Int) : List Int → Prop where
  | start : AP f live first [first]
  | step {s : List Int} {n : Int} : AP f live first s → n ∈ (stepD f (lastD s)).next → Alw f live first n → AP f live first (s ++ [n])

/-- What holds between the rounds: R: the path by which a step was found; P: the steps that were followed. -/
structure LInv (f : Flow) (live : List Bool) (first : Int) (q : List (List Int)) (seen : List Bool) (R : Int → List Int) (P : Int → Prop) : Prop where
  ls : seen.length = f.steps.length
  r0 : R first = [first]
  s1 : ∀ n, InR f n → isIn seen n → Alw f live first n ∧ (P n ∨ ∃ p ∈ q, lastD p = n)
  s2 : P first ∨ ∃ p ∈ q, lastD p = first
  s3 : ∀ u, P u → u = first ∨ (InR f u ∧ isIn seen u)
  pth : ∀ p ∈ q, AP f live first p ∧ (lastD p = first ∨ (InR f (lastD p) ∧ isIn seen (lastD p))) ∧ R (lastD p) = p
  done : ∀ u, P u → first ∉ (stepD f u).next ∧ ∀ n ∈ (stepD f u).next, Alw f live first n → isIn seen n ∧ PLe (R n) (R u ++ [n])
  srt : q.Pairwise PLt
  past : ∀ u, P u → ∀ p ∈ q, PLt (R u) p
  near : ∀ a ∈ q, ∀ b ∈ q, b.length ≤ a.length + 1 ∧ (b.length = a.length + 1 → PLt b.dropLast a)

theorem LInv.begin (f : Flow) (live : List Bool) (first : Int) : LInv f live first [[first]] (List.replicate f.steps.length false) (fun _ => [first]) fun _ => False :=
  ⟨by simp, rfl, fun n _ h => absurd h (isIn_replicate _ _), .inr ⟨[first], by simp, rfl⟩, fun _ h => h.elim, fun p hp => by
    rw [List.mem_singleton] at hp; subst hp; exact ⟨.start, .inl rfl, rfl⟩, fun _ h => h.elim, by simp, fun _ h => h.elim, fun a ha b hb => by
    rw [List.mem_singleton] at ha hb; subst ha; subst hb; simp⟩

theorem PLt.self_snoc (s : List Int) (n : Int) : PLt s (s ++ [n]) := .inl (by simp)
theorem PLe.lt {a b c : List Int} (h1 : PLe a b) (h2 : PLt b c) : PLt a c := by
  rcases h1 with h | rfl
  · exact h.trans h2
  · exact h2

/-- A path ahead of all that wait was followed, by one that is not behind it. -/
theorem LInv.ahead {f : Flow} {live : List Bool} {first : Int} {q : List (List Int)} {seen : List Bool} {R : Int → List Int} {P : Int → Prop} (h : LInv f live first q seen R P) {t : List Int} (ht : ∀ p ∈ q, PLe t p) :
    ∀ {s : List Int}, AP f live first s → PLt s t → P (lastD s) ∧ PLe (R (lastD s)) s := by
  intro s hs
  induction hs with
  | start =>
    intro hlt
    have e : lastD [first] = first := rfl
    rw [e, h.r0]
    refine ⟨?_, .refl _⟩
    rcases h.s2 with h' | ⟨p, hp, e⟩
    · exact h'
    · have e2 := (h.pth p hp).2.2
      rw [e, h.r0] at e2
      exact absurd hlt (not_PLt.2 (by rw [e2]; exact ht _ hp))
  | @step s n hs hn ha ih =>
    intro hlt
    obtain ⟨h1, h2⟩ := ih ((PLt.self_snoc s n).trans hlt)
    obtain ⟨h3, h4⟩ := (h.done _ h1).2 n hn ha
    have h5 : PLe (R n) (s ++ [n]) := h4.trans (h2.snoc n)
    rw [lastD_snoc]
    refine ⟨?_, h5⟩
    rcases (h.s1 n ha.1 h3).2 with h' | ⟨p, hp, e⟩
    · exact h'
    · have e2 := (h.pth p hp).2.2
      rw [e] at e2
      exact absurd (h5.lt hlt) (not_PLt.2 (by rw [e2]; exact ht _ hp))

/-- Where the first that waits closes a cycle, no closing path is ahead of it. -/
theorem LInv.least {f : Flow} {live : List Bool} {first : Int} {l : List Int} {rest : List (List Int)} {seen : List Bool} {R : Int → List Int} {P : Int → Prop} (h : LInv f live first (l :: rest) seen R P) {s : List Int} (hs : AP f live first s) (hc : first ∈ (stepD f (lastD s)).next) : PLe l s := by
  refine not_PLt.1 fun hlt => ?_
  have hp := (h.ahead (t := l) (fun p hp => by
    rcases List.mem_cons.1 hp with rfl | hp
    · exact .refl _
    · exact .inl ((List.pairwise_cons.1 h.srt).1 p hp)) hs hlt).1
  exact (h.done _ hp).1 hc
/-- Where nothing waits, no path closes. -/
theorem LInv.none {f : Flow} {live : List Bool} {first : Int} {seen : List Bool} {R : Int → List Int} {P : Int → Prop} (h : LInv f live first [] seen R P) {s : List Int} (hs : AP f live first s) : first ∉ (stepD f (lastD s)).next :=
  (h.done _ (h.ahead (t := s ++ [0]) (fun p hp => by simp at hp) hs (PLt.self_snoc s 0)).1).1
end Go.Proofs.Ytijmlfmapfhabaa

/- The search for a shortest cycle finds the first one, in plain Lean: a round. -/
namespace Go.Proofs.Ytijmlfmapfhabaa

theorem scan_sub {live : List Bool} {first : Int} {l : List Int} : ∀ {nx : List Int} {q : List (List Int)} {seen : List Bool}, first ∉ nx →
    ∃ (news : List Int) (seen' : List Bool), cycScan live first l nx q seen = some (q ++ news.map (fun n => l ++ [n]), seen') ∧ news.Sublist nx
  | [], q, seen, _ => ⟨[], seen, by simp [cycScan], .slnil⟩
  | n :: r, q, seen, hf => by
    have hfr : first ∉ r := fun h => hf (by simp [h])
    have hnf : ¬ n = first := fun e => hf (by simp [e])
    unfold cycScan
    rw [if_neg hnf]
    by_cases hc : first < n ∧ live.getD n.toNat false = true ∧ seen.getD n.toNat true = false
    · rw [if_pos hc]
      obtain ⟨news, seen', h1, h2⟩ := scan_sub (live := live) (l := l) (q := q ++ [l ++ [n]]) (seen := seen.set n.toNat true) hfr
      exact ⟨n :: news, seen', by rw [h1]; simp, h2.cons_cons n⟩
    · rw [if_neg hc]
      obtain ⟨news, seen', h1, h2⟩ := scan_sub (live := live) (l := l) (q := q) (seen := seen) hfr
      exact ⟨news, seen', h1, h2.cons n⟩

theorem next_sorted {f : Flow} (hval : valid f = true) {u : Int} (hu : InR f u) : (stepD f u).next.Pairwise (· < ·) := by
  have h := valid_step hval hu.1 hu.2
  unfold rightStep at h
  simp only [Bool.and_eq_true] at h
  exact ((ascending_iff _ _ _).1 h.1.1.1.2).2

theorem LInv.step {f : Flow} (hval : valid f = true) {live : List Bool} {first : Int} (hf : InR f first) (hl : live.length = f.steps.length) {l : List Int} {rest : List (List Int)} {seen : List Bool} {R : Int → List Int} {P : Int → Prop}
    (h : LInv f live first (l :: rest) seen R P) (hno : first ∉ (stepD f (lastD l)).next) :
    ∃ q' seen' R' P', cycScan live first l (stepD f (lastD l)).next rest seen = some (q', seen') ∧ LInv f live first q' seen' R' P' ∧ q'.length + seen'.count false + 1 = (l :: rest).length + seen.count false := by
  obtain ⟨hap, hps, hRl⟩ := h.pth l (by simp)
  have hur : InR f (lastD l) := by
    rcases hps with e | e
    · rw [e]; exact hf
    · exact e.1
  obtain ⟨news, seen', h1, h2, h3, h4, h5, h6⟩ := scan_some (f := f) (live := live) (first := first) (l := l) hl (q := rest) h.ls (next_inR hval hur) hno
  obtain ⟨news2, seen2, k1, k2⟩ := scan_sub (live := live) (l := l) (q := rest) (seen := seen) hno
  have hnn : news2 = news := by
    rw [h1] at k1
    have e := (Prod.mk.inj (Option.some.inj k1)).1
    have e2 := List.append_cancel_left e
    exact ((List.map_inj_right (fun a b hab => by simpa using hab)).1 e2).symm
  rw [hnn] at k2
  have hnsort : news.Pairwise (· < ·) := (next_sorted hval hur).sublist k2
  have hnotnew : ∀ u, (u = first ∨ isIn seen u) → u ∉ news := fun u hu hn => by
    obtain ⟨_, a2, a3⟩ := h2 u hn
    rcases hu with rfl | hu
    · have := a2.2.1; omega
    · exact a3 hu
  have hR : ∀ u, (u = first ∨ isIn seen u) → (if u ∈ news then l ++ [u] else R u) = R u := fun u hu => if_neg (hnotnew u hu)
  have hmono : ∀ m, InR f m → isIn seen m → isIn seen' m := fun m hm hs => (h3 m hm).2 (.inl hs)
  have hmin : ∀ p ∈ rest, PLt l p := fun p hp => (List.pairwise_cons.1 h.srt).1 p hp
  have hmem : ∀ p, p ∈ rest ++ news.map (fun n => l ++ [n]) ↔ p ∈ rest ∨ ∃ n ∈ news, p = l ++ [n] := fun p => by
    rw [List.mem_append, List.mem_map]
    constructor
    · rintro (h | ⟨n, hn, rfl⟩)
      · exact .inl h
      · exact .inr ⟨n, hn, rfl⟩
    · rintro (h | ⟨n, hn, rfl⟩)
      · exact .inl h
      · exact .inr ⟨n, hn, rfl⟩
  have hst : ∀ u, P u → (u = first ∨ isIn seen u) := fun u hu => (h.s3 u hu).imp id (·.2)
  have hus : lastD l = first ∨ isIn seen (lastD l) := hps.imp id (·.2)
  -- what waits is not longer than the new ones, and ahead of them
  have hahead : ∀ p ∈ rest, ∀ n, PLt p (l ++ [n]) := fun p hp n => by
    obtain ⟨n1, n2⟩ := h.near l (by simp) p (by simp [hp])
    by_cases e : p.length = l.length + 1
    · have hd := n2 e
      have hpne : p ≠ [] := fun e' => by rw [e'] at e; simp at e
      have := hd.snoc (p.getLast hpne) n
      rwa [List.dropLast_concat_getLast] at this
    · exact .inl (by simp; omega)
  refine ⟨_, seen', fun u => if u ∈ news then l ++ [u] else R u, fun u => P u ∨ u = lastD l, h1, ⟨h5, ?_, fun n hn hs => ?_, ?_, fun u hu => ?_, fun p hp' => ?_, fun u hu => ?_, ?_, fun u hu p hp' => ?_, fun a ha b hb => ?_⟩, ?_⟩
  · show (if first ∈ news then l ++ [first] else R first) = [first]
    rw [hR first (.inl rfl)]; exact h.r0
  · rcases (h3 n hn).1 hs with hs | hs
    · obtain ⟨a1, a2⟩ := h.s1 n hn hs
      refine ⟨a1, ?_⟩
      rcases a2 with a2 | ⟨p, hp', e⟩
      · exact .inl (.inl a2)
      · rcases List.mem_cons.1 hp' with rfl | hp'
        · exact .inl (.inr e.symm)
        · exact .inr ⟨p, (hmem p).2 (.inl hp'), e⟩
    · exact ⟨(h2 n hs).2.1, .inr ⟨l ++ [n], (hmem _).2 (.inr ⟨n, hs, rfl⟩), lastD_snoc _ _⟩⟩
  · rcases h.s2 with h' | ⟨p, hp', e⟩
    · exact .inl (.inl h')
    · rcases List.mem_cons.1 hp' with rfl | hp'
      · exact .inl (.inr e.symm)
      · exact .inr ⟨p, (hmem p).2 (.inl hp'), e⟩
  · rcases hu with hu | rfl
    · rcases h.s3 u hu with e | ⟨a1, a2⟩
      · exact .inl e
      · exact .inr ⟨a1, hmono u a1 a2⟩
    · rcases hus with e | e
      · exact .inl e
      · exact .inr ⟨hur, hmono _ hur e⟩
  · show _ ∧ _ ∧ (if lastD p ∈ news then l ++ [lastD p] else R (lastD p)) = p
    rcases (hmem p).1 hp' with hp' | ⟨n, hn, rfl⟩
    · obtain ⟨a1, a2, a3⟩ := h.pth p (by simp [hp'])
      rw [hR _ (a2.imp id (·.2))]
      refine ⟨a1, ?_, a3⟩
      rcases a2 with e | ⟨e1, e2⟩
      · exact .inl e
      · exact .inr ⟨e1, hmono _ e1 e2⟩
    · obtain ⟨b1, b2, b3⟩ := h2 n hn
      rw [lastD_snoc, if_pos hn]
      exact ⟨.step hap b1 b2, .inr ⟨b2.1, (h3 n b2.1).2 (.inr hn)⟩, rfl⟩
  · rcases hu with hu | rfl
    · obtain ⟨a1, a2⟩ := h.done u hu
      refine ⟨a1, fun n hn ha => ?_⟩
      obtain ⟨b1, b2⟩ := a2 n hn ha
      refine ⟨hmono n ha.1 b1, ?_⟩
      show PLe (if n ∈ news then l ++ [n] else R n) ((if u ∈ news then l ++ [u] else R u) ++ [n])
      rw [hR n (.inr b1), hR u (hst u hu)]; exact b2
    · refine ⟨hno, fun n hn ha => ⟨h4 n hn ha, ?_⟩⟩
      show PLe (if n ∈ news then l ++ [n] else R n) ((if lastD l ∈ news then l ++ [lastD l] else R (lastD l)) ++ [n])
      rw [hR (lastD l) hus, hRl]
      by_cases hnn : n ∈ news
      · rw [if_pos hnn]; exact .refl _
      · rw [if_neg hnn]
        have hsn : isIn seen n := ((h3 n ha.1).1 (h4 n hn ha)).resolve_right hnn
        rcases (h.s1 n ha.1 hsn).2 with a | ⟨p, hp', e⟩
        · exact ((h.past n a l (by simp)).trans (PLt.self_snoc l n)).le
        · have e1 := (h.pth p hp').2.2
          rw [e] at e1
          rw [e1]
          rcases List.mem_cons.1 hp' with rfl | hp'
          · exact (PLt.self_snoc _ n).le
          · exact (hahead p hp' n).le
  · rw [List.pairwise_append]
    refine ⟨(List.pairwise_cons.1 h.srt).2, ?_, fun a ha b hb => ?_⟩
    · rw [List.pairwise_map]
      exact hnsort.imp fun hab => PLt.last l hab
    · obtain ⟨n, _, rfl⟩ := List.mem_map.1 hb
      exact hahead a ha n
  · show PLt (if u ∈ news then l ++ [u] else R u) p
    have hul : PLe (R u) l ∧ (u = first ∨ isIn seen u) := by
      rcases hu with hu | rfl
      · exact ⟨(h.past u hu l (by simp)).le, hst u hu⟩
      · rw [hRl]; exact ⟨.refl _, hus⟩
    rw [hR u hul.2]
    rcases (hmem p).1 hp' with hp' | ⟨n, _, rfl⟩
    · exact hul.1.lt (hmin p hp')
    · exact hul.1.lt (PLt.self_snoc l n)
  · have hlen : ∀ p, p ∈ rest ++ news.map (fun n => l ++ [n]) → l.length ≤ p.length ∧ p.length ≤ l.length + 1 := fun p hp => by
      rcases (hmem p).1 hp with hp | ⟨n, _, rfl⟩
      · refine ⟨?_, (h.near l (by simp) p (by simp [hp])).1⟩
        rcases hmin p hp with e | e <;> omega
      · simp
    have h7 := hlen a ha; have h8 := hlen b hb
    refine ⟨by omega, fun e => ?_⟩
    have hal : a.length = l.length := by omega
    have har : a ∈ rest := by
      rcases (hmem a).1 ha with ha | ⟨n, _, rfl⟩
      · exact ha
      · simp at hal
    rcases (hmem b).1 hb with hb | ⟨n, _, rfl⟩
    · exact (h.near a (by simp [har]) b (by simp [hb])).2 e
    · rw [List.dropLast_concat]; exact hmin a har
  · simp only [List.length_append, List.length_map, List.length_cons]; omega
end Go.Proofs.Ytijmlfmapfhabaa

/- The search for a shortest cycle finds the first one, in plain Lean: the end. -/
namespace Go.Proofs.Ytijmlfmapfhabaa

theorem AP.ne {f : Flow} {live : List Bool} {first : Int} {s : List Int} (h : AP f live first s) : s ≠ [] := by
  cases h <;> simp

theorem cycGo_least {f : Flow} (hval : valid f = true) {live : List Bool} {first : Int} (hf : InR f first) (hl : live.length = f.steps.length) : ∀ (k : Nat) (q : List (List Int)) (seen : List Bool) (R : Int → List Int) (P : Int → Prop),
    LInv f live first q seen R P → q.length + seen.count false ≤ k →
    (cycGo f live first k q seen = [] → ∀ s, AP f live first s → first ∉ (stepD f (lastD s)).next) ∧
    (cycGo f live first k q seen ≠ [] → AP f live first (cycGo f live first k q seen) ∧ first ∈ (stepD f (lastD (cycGo f live first k q seen))).next ∧ ∀ s, AP f live first s → first ∈ (stepD f (lastD s)).next → PLe (cycGo f live first k q seen) s) := by
  intro k
  induction k with
  | zero =>
    intro q seen R P h hk
    have : q = [] := List.eq_nil_of_length_eq_zero (by omega)
    subst this
    unfold cycGo
    exact ⟨fun _ s hs => h.none hs, fun h => absurd rfl h⟩
  | succ k ih =>
    intro q seen R P h hk
    cases q with
    | nil =>
      unfold cycGo
      exact ⟨fun _ s hs => h.none hs, fun h => absurd rfl h⟩
    | cons l rest =>
      unfold cycGo
      obtain ⟨hp, _, _⟩ := h.pth l (by simp)
      by_cases hin : first ∈ (stepD f (lastD l)).next
      · rw [scan_none.2 hin]
        exact ⟨fun e => absurd e hp.ne, fun _ => ⟨hp, hin, fun s hs hc => h.least hs hc⟩⟩
      · obtain ⟨q', seen', R', P', h1, h2, h3⟩ := h.step hval hf hl hin
        rw [h1]
        exact ih q' seen' R' P' h2 (by omega)

/-- The cycle that is found is the first of the shortest ones. -/
theorem cycle_least {f : Flow} (hval : valid f = true) {live : List Bool} {first : Int} (hf : InR f first) (hl : live.length = f.steps.length) :
    (cycle f live first = [] → ∀ s, AP f live first s → first ∉ (stepD f (lastD s)).next) ∧
    (cycle f live first ≠ [] → AP f live first (cycle f live first) ∧ first ∈ (stepD f (lastD (cycle f live first))).next ∧ ∀ s, AP f live first s → first ∈ (stepD f (lastD s)).next → PLe (cycle f live first) s) := by
  unfold cycle
  exact cycGo_least hval hf hl _ _ _ _ _ (LInv.begin f live first) (by simp)
end Go.Proofs.Ytijmlfmapfhabaa

/- How far it is back to a step, in plain Lean. -/
namespace Go.Proofs.Ytijmlfmapfhabaa

/-- So many steps lead back to the first one, over steps that a cycle may go through. -/
inductive Cl (f : Flow) (live : List Bool) (first : Int) : Nat → Int → Prop where
  | one {n : Int} : first ∈ (stepD f n).next → Cl f live first 1 n
  | more {d : Nat} {n c : Int} : Cl f live first d c → c ∈ (stepD f n).next → Alw f live first c → Cl f live first (d + 1) n

theorem AP.cl {f : Flow} {live : List Bool} {first : Int} {s : List Int} (h : AP f live first s) : ∀ {d : Nat}, Cl f live first d (lastD s) → Cl f live first (s.length - 1 + d) first := by
  induction h with
  | start => intro d hc; rw [show [first].length - 1 + d = d from by simp]; exact hc
  | @step s n hs hn ha ih =>
    intro d hc
    rw [lastD_snoc] at hc
    have := ih (.more hc hn ha)
    have hp := List.length_pos_iff.2 hs.ne
    rw [List.length_append, List.length_singleton, show s.length + 1 - 1 + d = s.length - 1 + (d + 1) from by omega]
    exact this
/-- A closing path is as long as its way back. -/
theorem AP.closes {f : Flow} {live : List Bool} {first : Int} {s : List Int} (h : AP f live first s) (hc : first ∈ (stepD f (lastD s)).next) : Cl f live first s.length first := by
  have := h.cl (.one hc)
  have hp := List.length_pos_iff.2 h.ne
  rwa [show s.length - 1 + 1 = s.length from by omega] at this
theorem Cl.pos {f : Flow} {live : List Bool} {first : Int} {d : Nat} {n : Int} (h : Cl f live first d n) : 0 < d := by
  cases h <;> omega
theorem Cl.path {f : Flow} {live : List Bool} {first : Int} {d : Nat} {n : Int} (h : Cl f live first d n) : ∀ {s : List Int}, AP f live first s → lastD s = n → ∃ t, AP f live first t ∧ t.length + 1 = s.length + d ∧ first ∈ (stepD f (lastD t)).next := by
  induction h with
  | one hc => intro s hs e; exact ⟨s, hs, rfl, by rw [e]; exact hc⟩
  | @more d n c hd hc ha ih =>
    intro s hs e
    obtain ⟨t, h1, h2, h3⟩ := ih (s := s ++ [c]) (.step hs (by rw [e]; exact hc) ha) (lastD_snoc _ _)
    exact ⟨t, h1, by rw [List.length_append, List.length_singleton] at h2; omega, h3⟩
end Go.Proofs.Ytijmlfmapfhabaa

/- The table of ways back, in plain Lean. -/
namespace Go.Proofs.Ytijmlfmapfhabaa

def dg (dist : List Int) (n : Int) : Int := dist.getD n.toNat 0
/-- A step of Next leads on, in round d. -/
def dHit (first : Int) (d : Nat) (dist : List Int) (c : Int) : Prop := (d = 1 ∧ c = first) ∨ (1 < d ∧ first < c ∧ dg dist c = (d : Int) - 1)

/-- Behind d - 1 rounds, and in the next one up to step u. -/
structure DInv (f : Flow) (live : List Bool) (first : Int) (dist : List Int) (d u : Nat) : Prop where
  len : dist.length = f.steps.length
  val : ∀ n, InR f n → dg dist n = 0 ∨ ∃ e : Nat, dg dist n = e ∧ Cl f live first e n ∧ (∀ e', e' < e → ¬ Cl f live first e' n) ∧ isIn live n ∧ first ≤ n
  full : ∀ n, InR f n → isIn live n → first ≤ n → ∀ e, Cl f live first e n → (e < d ∨ (e = d ∧ n < u)) → dg dist n ≠ 0

theorem DInv.skip {f : Flow} {live : List Bool} {first : Int} {dist : List Int} {d u : Nat} (h : DInv f live first dist d u) (hs : ¬ isIn live (u : Int) ∨ dg dist u ≠ 0) : DInv f live first dist d (u + 1) := by
  refine ⟨h.len, h.val, fun n hn hl hf e hc he => ?_⟩
  by_cases hnu : n = u
  · subst hnu
    rcases hs with hs | hs
    · exact absurd hl hs
    · exact hs
  · exact h.full n hn hl hf e hc (by omega)
theorem dg_set {dist : List Int} {n m : Int} {x : Int} (hn : 0 ≤ n ∧ n < dist.length) (hm : 0 ≤ m) : dg (dist.set n.toNat x) m = if m = n then x else dg dist m := by
  unfold dg
  rw [List.getD_eq_getElem?_getD, List.getD_eq_getElem?_getD, List.getElem?_set]
  by_cases e : m = n
  · subst e; rw [if_pos rfl, if_pos (by omega), if_pos rfl]; rfl
  · rw [if_neg e, if_neg (by omega)]
theorem DInv.hit {f : Flow} {live : List Bool} {first : Int} {dist : List Int} {d u : Nat} (h : DInv f live first dist d u) (hu : InR f (u : Int)) (hl : isIn live (u : Int)) (hf : first ≤ u) (h0 : dg dist u = 0) {c : Int} (hcr : InR f c) (hc : c ∈ (stepD f u).next) (hh : dHit first d dist c) :
    DInv f live first (dist.set (u : Int).toNat d) d (u + 1) := by
  have hset : ∀ m, InR f m → dg (dist.set (u : Int).toNat d) m = if m = u then (d : Int) else dg dist m := fun m hm => dg_set (by rw [h.len]; exact hu) hm.1
  have hcl : Cl f live first d u := by
    rcases hh with ⟨rfl, rfl⟩ | ⟨h1, h2, h3⟩
    · exact .one hc
    · rcases h.val c hcr with e | ⟨e, e1, e2, _, e4, _⟩
      · omega
      · have : d = e + 1 := by omega
        subst this
        exact .more e2 hc ⟨hcr, h2, e4⟩
  have hmin : ∀ e', e' < d → ¬ Cl f live first e' u := fun e' he' hc' => h.full u hu hl hf e' hc' (.inl he') h0
  refine ⟨by rw [List.length_set]; exact h.len, fun n hn => ?_, fun n hn hln hfn e hce he => ?_⟩
  · rw [hset n hn]
    by_cases e : n = u
    · rw [if_pos e]; subst e; exact .inr ⟨d, rfl, hcl, hmin, hl, hf⟩
    · rw [if_neg e]; exact h.val n hn
  · rw [hset n hn]
    by_cases hnu : n = u
    · rw [if_pos hnu]; have := hcl.pos; omega
    · rw [if_neg hnu]; exact h.full n hn hln hfn e hce (by omega)
theorem DInv.miss {f : Flow} {live : List Bool} {first : Int} {dist : List Int} {d u : Nat} (h : DInv f live first dist d u) (hu : InR f (u : Int)) (hl : isIn live (u : Int)) (hf : first ≤ u) (h0 : dg dist u = 0) (hh : ∀ c ∈ (stepD f u).next, ¬ dHit first d dist c) :
    DInv f live first dist d (u + 1) := by
  refine ⟨h.len, h.val, fun n hn hln hfn e hce he => ?_⟩
  by_cases hnu : n = u ∧ e = d
  · exfalso
    obtain ⟨rfl, rfl⟩ := hnu
    cases hce with
    | one hc => exact hh _ hc (.inl ⟨rfl, rfl⟩)
    | more hd hc ha =>
      rename_i d' c
      have hdn := h.full c ha.1 ha.2.2 (Int.le_of_lt ha.2.1) d' hd (.inl (by omega))
      rcases h.val c ha.1 with e | ⟨e, e1, e2, e3, _, _⟩
      · exact hdn e
      · have hle : e ≤ d' := Nat.le_of_not_lt fun hlt => e3 d' hlt hd
        rcases Nat.lt_or_ge e d' with hlt | hge
        · exact h.full _ hu hl hf (e + 1) (.more e2 hc ha) (.inl (by omega)) h0
        · have := hd.pos
          exact hh c hc (.inr ⟨by omega, ha.2.1, by omega⟩)
  · exact h.full n hn hln hfn e hce (by omega)
end Go.Proofs.Ytijmlfmapfhabaa

/- The table of ways back, in plain Lean: its rounds. -/
namespace Go.Proofs.Ytijmlfmapfhabaa

theorem DInv.begin (f : Flow) (live : List Bool) {first : Int} (h0 : 0 ≤ first) : DInv f live first (List.replicate f.steps.length 0) 1 first.toNat := by
  refine ⟨by simp, fun n _ => .inl ?_, fun n _ _ hf e hc he => ?_⟩
  · unfold dg; rw [List.getD_eq_getElem?_getD, List.getElem?_replicate]; split <;> rfl
  · have := hc.pos; omega
theorem DInv.round {f : Flow} {live : List Bool} {first : Int} (h0 : 0 ≤ first) {dist : List Int} {d : Nat} (h : DInv f live first dist d f.steps.length) : DInv f live first dist (d + 1) first.toNat := by
  refine ⟨h.len, h.val, fun n hn hl hf e hc he => h.full n hn hl hf e hc ?_⟩
  have := hn.2
  omega
end Go.Proofs.Ytijmlfmapfhabaa

/- The table of ways back, in plain Lean: its end, and the way that it shows. -/
namespace Go.Proofs.Ytijmlfmapfhabaa

theorem nodup_len : ∀ (n : Nat) (l : List Int), l.Nodup → (∀ x ∈ l, 0 ≤ x ∧ x < n) → l.length ≤ n
  | 0, l, _, h => by
    cases l with
    | nil => simp
    | cons a r => have := h a (by simp); omega
  | n + 1, l, hd, h => by
    have ih := nodup_len n (l.erase (n : Int)) (hd.erase _) (fun x hx => by
      have h1 := (hd.mem_erase_iff).1 hx
      have h2 := h x h1.2
      have h3 := h1.1
      omega)
    rw [List.length_erase] at ih
    split at ih <;> omega
theorem getD_snoc_lt {s : List Int} {n : Int} {j : Nat} (h : j < s.length) : (s ++ [n]).getD j 0 = s.getD j 0 := by
  rw [List.getD_eq_getElem?_getD, List.getD_eq_getElem?_getD, List.getElem?_append_left h]
theorem getD_snoc_eq (s : List Int) (n : Int) : (s ++ [n]).getD s.length 0 = n := by
  rw [List.getD_eq_getElem?_getD, List.getElem?_append_right (Nat.le_refl _)]; simp
theorem lastD_getD {s : List Int} (h : s ≠ []) : s.getD (s.length - 1) 0 = lastD s := by
  rw [lastD_get h, List.getD_eq_getElem?_getD, List.getElem?_eq_getElem (by have := List.length_pos_iff.2 h; omega)]; rfl
theorem take_getD {s : List Int} {k : Nat} (h : k < s.length) : s.take (k + 1) = s.take k ++ [s.getD k 0] := by
  rw [List.take_succ_eq_append_getElem h, List.getD_eq_getElem?_getD, List.getElem?_eq_getElem h]; rfl
theorem lastD_take {s : List Int} {k : Nat} (h : k < s.length) : lastD (s.take (k + 1)) = s.getD k 0 := by rw [take_getD h, lastD_snoc]

theorem AP.take {f : Flow} {live : List Bool} {first : Int} {s : List Int} (h : AP f live first s) : ∀ {k : Nat}, 0 < k → AP f live first (s.take k) := by
  induction h with
  | start => intro k hk; rw [List.take_of_length_le (by simp; omega)]; exact .start
  | @step s n hs hn ha ih =>
    intro k hk
    by_cases h : k ≤ s.length
    · rw [List.take_append_of_le_length h]; exact ih hk
    · rw [List.take_of_length_le (by simp; omega)]; exact .step hs hn ha
theorem AP.zero {f : Flow} {live : List Bool} {first : Int} {s : List Int} (h : AP f live first s) : s.getD 0 0 = first := by
  induction h with
  | start => rfl
  | @step s n hs hn ha ih => rw [getD_snoc_lt (List.length_pos_iff.2 hs.ne)]; exact ih
theorem AP.link {f : Flow} {live : List Bool} {first : Int} {s : List Int} (h : AP f live first s) : ∀ {j : Nat}, j + 1 < s.length → s.getD (j + 1) 0 ∈ (stepD f (s.getD j 0)).next ∧ Alw f live first (s.getD (j + 1) 0) := by
  induction h with
  | start => intro j hj; simp at hj
  | @step s n hs hn ha ih =>
    intro j hj
    rw [List.length_append, List.length_singleton] at hj
    by_cases h : j + 1 < s.length
    · rw [getD_snoc_lt h, getD_snoc_lt (by omega)]; exact ih h
    · have e : j + 1 = s.length := by omega
      rw [getD_snoc_lt (show j < s.length from by omega), e, getD_snoc_eq, show j = s.length - 1 from by omega, lastD_getD hs.ne]
      exact ⟨hn, ha⟩
theorem AP.clAt {f : Flow} {live : List Bool} {first : Int} {s : List Int} (h : AP f live first s) : ∀ {d : Nat}, Cl f live first d (lastD s) → ∀ {j : Nat}, j < s.length → Cl f live first (s.length - 1 - j + d) (s.getD j 0) := by
  induction h with
  | start =>
    intro d hc j hj
    have hj : j = 0 := by simp at hj; exact hj
    subst hj
    rw [show [first].length - 1 - 0 + d = d from by simp]
    exact hc
  | @step s n hs hn ha ih =>
    intro d hc j hj
    rw [lastD_snoc] at hc
    rw [List.length_append, List.length_singleton] at hj ⊢
    by_cases h : j < s.length
    · rw [getD_snoc_lt h, show s.length + 1 - 1 - j + d = s.length - 1 - j + (d + 1) from by omega]
      exact ih (.more hc hn ha) h
    · obtain rfl : j = s.length := by omega
      rw [getD_snoc_eq, show s.length + 1 - 1 - s.length + d = d from by omega]
      exact hc
theorem Cl.path2 {f : Flow} {live : List Bool} {first : Int} {d : Nat} {n : Int} (h : Cl f live first d n) : ∀ {s : List Int}, AP f live first s → lastD s = n → ∃ t, AP f live first (s ++ t) ∧ t.length + 1 = d ∧ first ∈ (stepD f (lastD (s ++ t))).next := by
  induction h with
  | one hc => intro s hs e; exact ⟨[], by simpa using hs, rfl, by rw [List.append_nil, e]; exact hc⟩
  | @more d n c hd hc ha ih =>
    intro s hs e
    obtain ⟨t, h1, h2, h3⟩ := ih (s := s ++ [c]) (.step hs (by rw [e]; exact hc) ha) (lastD_snoc _ _)
    exact ⟨c :: t, by simpa using h1, by simp; omega, by simpa using h3⟩

/-- Paths that part at a step. -/
theorem PLt.part {a r t : List Int} {x y : Int} (h : x < y) (hl : r.length = t.length) : PLt (a ++ x :: r) (a ++ y :: t) := by
  refine .inr ⟨by simp [hl], ?_⟩
  induction a with
  | nil => simp [cmpL, cmpI, h]
  | cons c s ih =>
    simp only [List.cons_append, cmpL]
    rw [if_pos (by simp [cmpI])]
    exact ih

/-- A step that the way shown by the table may go to. -/
def picks (live : List Bool) (first : Int) (dist : List Int) (d m : Int) : Bool := (decide (first < m) && live.getD m.toNat false) && (dg dist m == d)

variable {f : Flow} {live : List Bool} {first : Int} {dist : List Int}

theorem cycle_len (hval : valid f = true) (hf : InR f first) (hl : live.length = f.steps.length) (hne : cycle f live first ≠ []) : (cycle f live first).length ≤ f.steps.length := by
  have hp := ((cycle_spec hval hf hl).2 hne).1
  refine nodup_len _ _ hp.nodup fun x hx => ?_
  rcases hp.ok x hx with rfl | h
  · exact hf
  · exact h.1
theorem DInv.near {u : Nat} (h : DInv f live first dist (f.steps.length + 1) u) {x : Int} (hx : InR f x) (hlx : isIn live x) (hfx : first ≤ x) {e : Nat} (hc : Cl f live first e x) (he : e ≤ f.steps.length) (hmin : ∀ e', Cl f live first e' x → e ≤ e') : dg dist x = e := by
  have h1 := h.full x hx hlx hfx e hc (.inl (by omega))
  rcases h.val x hx with h2 | ⟨e2, h2, h3, h4, _, _⟩
  · exact absurd h2 h1
  · have := hmin e2 h3
    rcases Nat.lt_or_ge e e2 with hlt | hge
    · exact absurd hc (h4 e hlt)
    · rw [h2]; omega
theorem DInv.zero {u : Nat} (h : DInv f live first dist (f.steps.length + 1) u) (hval : valid f = true) (hf : InR f first) (hl : live.length = f.steps.length) (hlf : isIn live first) (h0 : dg dist first = 0) : cycle f live first = [] := by
  apply Classical.byContradiction
  intro hne
  obtain ⟨h1, h2, _⟩ := (cycle_least hval hf hl).2 hne
  exact h.full first hf hlf (Int.le_refl _) _ (h1.closes h2) (.inl (by have := cycle_len hval hf hl hne; omega)) h0
theorem cycle_min (hval : valid f = true) (hf : InR f first) (hl : live.length = f.steps.length) {e : Nat} (hc : Cl f live first e first) : cycle f live first ≠ [] ∧ (cycle f live first).length ≤ e := by
  obtain ⟨t, h1, h2, h3⟩ := hc.path2 .start rfl
  have hne : cycle f live first ≠ [] := fun h => (cycle_least hval hf hl).1 h _ h1 h3
  refine ⟨hne, ?_⟩
  have hle := ((cycle_least hval hf hl).2 hne).2.2 _ h1 h3
  have hlen : ([first] ++ t).length = e := by simp; omega
  rcases hle with (h | ⟨h, _⟩) | h
  · omega
  · omega
  · rw [h]; omega
theorem DInv.len_eq {u : Nat} (h : DInv f live first dist (f.steps.length + 1) u) (hval : valid f = true) (hf : InR f first) (hl : live.length = f.steps.length) (hlf : isIn live first) (h0 : dg dist first ≠ 0) : cycle f live first ≠ [] ∧ dg dist first = ((cycle f live first).length : Int) := by
  rcases h.val first hf with h2 | ⟨e, h2, h3, _, _, _⟩
  · exact absurd h2 h0
  · have hm := cycle_min hval hf hl h3
    obtain ⟨h1, h4, _⟩ := (cycle_least hval hf hl).2 hm.1
    refine ⟨hm.1, h.near hf hlf (Int.le_refl _) (h1.closes h4) (cycle_len hval hf hl hm.1) fun e' he' => (cycle_min hval hf hl he').2⟩
/-- The first step of Next that the table lets pass is the next one of the first shortest cycle. -/
theorem DInv.pick {u : Nat} (h : DInv f live first dist (f.steps.length + 1) u) (hval : valid f = true) (hf : InR f first) (hl : live.length = f.steps.length) (hne : cycle f live first ≠ []) {k : Nat} (hk : 0 < k) (hk2 : k < (cycle f live first).length) :
    (stepD f ((cycle f live first).getD (k - 1) 0)).next.find? (picks live first dist (((cycle f live first).length : Int) - k)) = some ((cycle f live first).getD k 0) ∧ InR f ((cycle f live first).getD (k - 1) 0) := by
  obtain ⟨h1, h2, h3⟩ := (cycle_least hval hf hl).2 hne
  have hlen := cycle_len hval hf hl hne
  have hmin : ∀ s, AP f live first s → first ∈ (stepD f (lastD s)).next → (cycle f live first).length ≤ s.length := fun s hs hc => by
    rcases h3 s hs hc with (h | ⟨h, _⟩) | h
    · omega
    · omega
    · rw [h]; omega
  generalize cycle f live first = c at *
  have hlk := h1.link (j := k - 1) (by omega)
  rw [show k - 1 + 1 = k from by omega] at hlk
  have hir : InR f (c.getD (k - 1) 0) := by
    by_cases e : k = 1
    · subst e; rw [show 1 - 1 = 0 from rfl, h1.zero]; exact hf
    · have := (h1.link (j := k - 2) (by omega)).2.1
      rwa [show k - 2 + 1 = k - 1 from by omega] at this
  refine ⟨?_, hir⟩
  have hap : AP f live first (c.take k) := h1.take hk
  have hlast : lastD (c.take k) = c.getD (k - 1) 0 := by
    have := lastD_take (s := c) (k := k - 1) (by omega)
    rwa [show k - 1 + 1 = k from by omega] at this
  have hck : Cl f live first (c.length - k) (c.getD k 0) := by
    have := h1.clAt (.one h2) hk2
    rwa [show c.length - 1 - k + 1 = c.length - k from by omega] at this
  have hdk : dg dist (c.getD k 0) = ((c.length - k : Nat) : Int) := h.near hlk.2.1 hlk.2.2.2 (Int.le_of_lt hlk.2.2.1) hck (by omega) fun e' he' => by
    obtain ⟨t, t1, t2, t3⟩ := he'.path2 (s := c.take k ++ [c.getD k 0]) (.step hap (by rw [hlast]; exact hlk.1) hlk.2) (lastD_snoc _ _)
    have := hmin _ t1 t3
    simp only [List.length_append, List.length_take, List.length_singleton] at this
    omega
  have hsort := next_sorted hval hir
  obtain ⟨as, bs, hab⟩ := List.append_of_mem hlk.1
  rw [List.find?_eq_some_iff_append]
  refine ⟨?_, as, bs, hab, fun a ha => ?_⟩
  · unfold picks
    have := hlk.2.2.2
    unfold isIn at this
    rw [decide_eq_true hlk.2.2.1, this, hdk]
    simp; omega
  · have hlt : a < c.getD k 0 := by
      rw [hab, List.pairwise_append] at hsort
      exact hsort.2.2 a ha _ (by simp)
    have ham : a ∈ (stepD f (c.getD (k - 1) 0)).next := by rw [hab]; simp [ha]
    have har := next_inR hval hir a ham
    cases hp : picks live first dist ((c.length : Int) - k) a with
    | false => rfl
    | true =>
      exfalso
      unfold picks at hp
      simp only [Bool.and_eq_true, decide_eq_true_eq, beq_iff_eq] at hp
      obtain ⟨⟨p1, p2⟩, p3⟩ := hp
      rcases h.val a har with e | ⟨e, e1, e2, _, _, _⟩
      · omega
      · have : e = c.length - k := by omega
        subst this
        obtain ⟨t, t1, t2, t3⟩ := e2.path2 (s := c.take k ++ [a]) (.step hap (by rw [hlast]; exact ham) ⟨har, p1, p2⟩) (lastD_snoc _ _)
        have hle := h3 _ t1 t3
        have hlt2 : PLt (c.take k ++ [a] ++ t) c := by
          have hc : c = c.take k ++ c.getD k 0 :: c.drop (k + 1) := by
            have e1 : c.take k ++ [c.getD k 0] ++ c.drop (k + 1) = c := by rw [← take_getD hk2, List.take_append_drop]
            rw [List.append_assoc] at e1; exact e1.symm
          have e3 : c.take k ++ [a] ++ t = c.take k ++ a :: t := by simp
          rw [e3]
          have := PLt.part (a := c.take k) (r := t) (t := c.drop (k + 1)) hlt (by rw [List.length_drop]; omega)
          rwa [← hc] at this
        exact PLt.irrefl _ (hle.lt hlt2)
end Go.Proofs.Ytijmlfmapfhabaa

/- The table of ways back, in plain Lean: how a step's entry is found. -/
namespace Go.Proofs.Ytijmlfmapfhabaa

def dHitB (first : Int) (d : Nat) (dist : List Int) (c : Int) : Bool := (decide (d = 1) && decide (c = first)) || ((decide (1 < d) && decide (first < c)) && decide (dg dist c = (d : Int) - 1))
theorem dHitB_iff {first : Int} {d : Nat} {dist : List Int} {c : Int} : dHitB first d dist c = true ↔ dHit first d dist c := by
  unfold dHitB dHit; simp [and_assoc]
/-- The table behind some of a step's Next. -/
def dTab (first : Int) (d : Nat) (dist : List Int) (u : Nat) (l : List Int) : List Int := if l.any (dHitB first d dist) = true then dist.set u (d : Int) else dist
theorem dTab_len (first : Int) (d : Nat) (dist : List Int) (u : Nat) (l : List Int) : (dTab first d dist u l).length = dist.length := by
  unfold dTab; split <;> simp
theorem dTab_hit {first : Int} {d : Nat} {dist : List Int} {u : Nat} {l : List Int} (h0 : dg dist u = 0) (hu : u < dist.length) {c : Int} (hc : 0 ≤ c) : dHitB first d (dTab first d dist u l) c = dHitB first d dist c := by
  unfold dTab
  split
  · have e := dg_set (dist := dist) (n := (u : Int)) (m := c) (x := (d : Int)) ⟨by omega, by omega⟩ hc
    rw [Int.toNat_natCast] at e
    unfold dHitB
    rw [e]
    by_cases hcu : c = u
    · subst hcu
      rw [if_pos rfl, h0]
      congr 1
      rw [Bool.eq_iff_iff]; simp; omega
    · rw [if_neg hcu]
  · rfl
theorem dTab_snoc {first : Int} {d : Nat} {dist : List Int} {u : Nat} {l : List Int} (h0 : dg dist u = 0) (hu : u < dist.length) {c : Int} (hc : 0 ≤ c) :
    dTab first d dist u (l ++ [c]) = if dHitB first d (dTab first d dist u l) c = true then (dTab first d dist u l).set u (d : Int) else dTab first d dist u l := by
  rw [dTab_hit h0 hu hc]
  unfold dTab
  rw [List.any_append]
  by_cases h1 : l.any (dHitB first d dist) = true
  · rw [h1]
    simp
  · have h1' : l.any (dHitB first d dist) = false := by simpa using h1
    rw [h1']
    simp
theorem DInv.leave {f : Flow} {live : List Bool} {first : Int} {dist : List Int} {d u : Nat} (h : DInv f live first dist d u) (hval : valid f = true) (hu : InR f (u : Int)) (hl : isIn live (u : Int)) (hf : first ≤ u) (h0 : dg dist u = 0) :
    DInv f live first (dTab first d dist u (stepD f u).next) d (u + 1) := by
  unfold dTab
  split
  · rename_i hany
    obtain ⟨c, hc, hh⟩ := List.any_eq_true.1 hany
    have := h.hit hu hl hf h0 (next_inR hval hu c hc) hc (dHitB_iff.1 hh)
    rwa [Int.toNat_natCast] at this
  · rename_i hany
    exact h.miss hu hl hf h0 fun c hc hh => hany (List.any_eq_true.2 ⟨c, hc, dHitB_iff.2 hh⟩)
theorem picks_step {live : List Bool} {first : Int} {dist : List Int} {d x : Int} {l : List Int} {i : Nat} (h : (l.drop i).find? (picks live first dist d) = some x) : ∃ hi : i < l.length,
    (picks live first dist d l[i] = true → l[i] = x) ∧ (picks live first dist d l[i] = false → (l.drop (i + 1)).find? (picks live first dist d) = some x) := by
  have hi : i < l.length := by
    apply Classical.byContradiction
    intro hn
    rw [List.drop_of_length_le (by omega)] at h
    simp at h
  refine ⟨hi, ?_⟩
  rw [List.drop_eq_getElem_cons hi, List.find?_cons] at h
  constructor
  · intro hp; rw [hp] at h; simpa using h
  · intro hp; rw [hp] at h; exact h
end Go.Proofs.Ytijmlfmapfhabaa

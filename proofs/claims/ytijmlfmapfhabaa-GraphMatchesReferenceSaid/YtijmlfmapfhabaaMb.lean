/- The search for a shortest cycle, in plain Lean. -/
import Derived.Test.YtijmlfmapfhabaaMa

/- The search for a shortest cycle finds one, in plain Lean. -/
namespace Go.Proofs.Ytijmlfmapfhabaa

/-- A step that a cycle may go through behind its first one. -/
def Alw (f : Flow) (live : List Bool) (first n : Int) : Prop := InR f n ∧ first < n ∧ isIn live n

/-- Walks over such steps. -/
inductive Wk (f : Flow) (live : List Bool) (first : Int) : Nat → Int → Prop where
  | start : Wk f live first 0 first
  | step {j : Nat} {u n : Int} : Wk f live first j u → n ∈ (stepD f u).next → Alw f live first n → Wk f live first (j + 1) n

structure Pth (f : Flow) (live : List Bool) (first : Int) (p : List Int) : Prop where
  head : p.head? = some first
  ok : ∀ n ∈ p, n = first ∨ Alw f live first n
  nodup : p.Nodup
  link : ∀ i (h : i + 1 < p.length), p[i + 1] ∈ (stepD f p[i]).next

theorem lastD_snoc (l : List Int) (n : Int) : lastD (l ++ [n]) = n := by unfold lastD; simp
theorem lastD_get {l : List Int} (h : l ≠ []) : lastD l = l[l.length - 1]'(by have := List.length_pos_iff.2 h; omega) := by
  unfold lastD
  rw [List.getLastD_eq_getLast?, List.getLast?_eq_getElem?, List.getElem?_eq_getElem (by have := List.length_pos_iff.2 h; omega)]; rfl
theorem lastD_mem {l : List Int} (h : l ≠ []) : lastD l ∈ l := by rw [lastD_get h]; exact List.getElem_mem _
theorem Pth.ne {f : Flow} {live : List Bool} {first : Int} {p : List Int} (h : Pth f live first p) : p ≠ [] := by
  intro e; have := h.head; rw [e] at this; simp at this

theorem Pth.snoc {f : Flow} {live : List Bool} {first : Int} {p : List Int} (h : Pth f live first p) {n : Int} (hn : n ∈ (stepD f (lastD p)).next) (ha : Alw f live first n) (hnew : n ∉ p) : Pth f live first (p ++ [n]) := by
  have hne := h.ne
  have hpos := List.length_pos_iff.2 hne
  refine ⟨?_, fun m hm => ?_, ?_, fun i hi => ?_⟩
  · have := h.head
    cases p with
    | nil => simp at this
    | cons a r => simpa using this
  · rcases List.mem_append.1 hm with h1 | h1
    · exact h.ok m h1
    · rw [List.mem_singleton] at h1; exact .inr (h1 ▸ ha)
  · rw [List.nodup_append]
    exact ⟨h.nodup, by simp, fun a ha' b hb => by rw [List.mem_singleton] at hb; subst hb; exact fun e => hnew (e ▸ ha')⟩
  · have hlen : (p ++ [n]).length = p.length + 1 := by simp
    by_cases hl : i + 1 < p.length
    · rw [List.getElem_append_left hl, List.getElem_append_left (by omega)]
      exact h.link i hl
    · have e : i = p.length - 1 := by omega
      subst e
      rw [List.getElem_append_right (show p.length ≤ p.length - 1 + 1 from by omega), List.getElem_append_left (show p.length - 1 < p.length from by omega)]
      simp only [show p.length - 1 + 1 - p.length = 0 from by omega, List.getElem_cons_zero]
      rw [lastD_get hne] at hn
      exact hn

theorem isIn_dec {f : Flow} {o : List Bool} (hl : o.length = f.steps.length) {m : Int} (hm : InR f m) : o.getD m.toNat true = false ↔ ¬ isIn o m := by
  rw [← isIn_getD hl hm true]; simp

theorem scan_none {live : List Bool} {first : Int} {l : List Int} : ∀ {nx : List Int} {q : List (List Int)} {seen : List Bool}, cycScan live first l nx q seen = none ↔ first ∈ nx
  | [], q, seen => by simp [cycScan]
  | n :: r, q, seen => by
    unfold cycScan
    by_cases h : n = first
    · simp [h]
    · rw [if_neg h]
      have : first ∈ n :: r ↔ first ∈ r := by
        rw [List.mem_cons]; exact ⟨fun h' => h'.resolve_left (fun e => h e.symm), .inr⟩
      rw [this]
      split
      · exact scan_none
      · exact scan_none

theorem scan_some {f : Flow} {live : List Bool} {first : Int} {l : List Int} (hl : live.length = f.steps.length) : ∀ {nx : List Int} {q : List (List Int)} {seen : List Bool}, seen.length = f.steps.length → (∀ n ∈ nx, InR f n) → first ∉ nx →
    ∃ (news : List Int) (seen' : List Bool), cycScan live first l nx q seen = some (q ++ news.map (fun n => l ++ [n]), seen') ∧ (∀ n ∈ news, n ∈ nx ∧ Alw f live first n ∧ ¬ isIn seen n) ∧
      (∀ m, InR f m → (isIn seen' m ↔ isIn seen m ∨ m ∈ news)) ∧ (∀ n ∈ nx, Alw f live first n → isIn seen' n) ∧ seen'.length = f.steps.length ∧ news.length + seen'.count false = seen.count false
  | [], q, seen, hs, _, _ => ⟨[], seen, by simp [cycScan], by simp, by simp, by simp, hs, by simp⟩
  | n :: r, q, seen, hs, hr, hf => by
    have hnr := hr n (by simp)
    have hrr : ∀ m ∈ r, InR f m := fun m hm => hr m (by simp [hm])
    have hfr : first ∉ r := fun h => hf (by simp [h])
    have hnf : ¬ n = first := fun e => hf (by simp [e])
    unfold cycScan
    rw [if_neg hnf]
    by_cases hc : first < n ∧ live.getD n.toNat false = true ∧ seen.getD n.toNat true = false
    · rw [if_pos hc]
      obtain ⟨c1, c2, c3⟩ := hc
      have ha : Alw f live first n := ⟨hnr, c1, c2⟩
      have hns : ¬ isIn seen n := (isIn_dec hs hnr).1 c3
      have hsg : seen[n.toNat]? = some false := by
        have hlt : n.toNat < seen.length := by have := hnr.1; have := hnr.2; omega
        rw [List.getD_eq_getElem?_getD, List.getElem?_eq_getElem hlt] at c3
        rw [List.getElem?_eq_getElem hlt]
        exact congrArg some c3
      have hcs := count_set_lt hsg
      obtain ⟨news, seen', h1, h2, h3, h4, h5, h6⟩ := scan_some hl (l := l) (q := q ++ [l ++ [n]]) (seen := seen.set n.toNat true) (by simpa using hs) hrr hfr
      refine ⟨n :: news, seen', by rw [h1]; simp, fun m hm => ?_, fun m hm => ?_, fun m hm hma => ?_, h5, by simp; omega⟩
      · rcases List.mem_cons.1 hm with rfl | hm
        · exact ⟨by simp, ha, hns⟩
        · obtain ⟨a1, a2, a3⟩ := h2 m hm
          exact ⟨by simp [a1], a2, fun h => a3 ((isIn_set hs hnr (hrr m a1)).2 (.inr h))⟩
      · rw [h3 m hm, isIn_set hs hnr hm, List.mem_cons]
        constructor
        · rintro ((h | h) | h)
          · exact .inr (.inl h)
          · exact .inl h
          · exact .inr (.inr h)
        · rintro (h | h | h)
          · exact .inl (.inr h)
          · exact .inl (.inl h)
          · exact .inr h
      · rcases List.mem_cons.1 hm with rfl | hm
        · rw [h3 m hnr]; exact .inl ((isIn_set hs hnr hnr).2 (.inl rfl))
        · exact h4 m hm hma
    · rw [if_neg hc]
      obtain ⟨news, seen', h1, h2, h3, h4, h5, h6⟩ := scan_some hl (l := l) (q := q) hs hrr hfr
      refine ⟨news, seen', h1, fun m hm => ?_, h3, fun m hm hma => ?_, h5, h6⟩
      · obtain ⟨a1, a2, a3⟩ := h2 m hm
        exact ⟨by simp [a1], a2, a3⟩
      · rcases List.mem_cons.1 hm with rfl | hm
        · by_cases hsn : isIn seen m
          · rw [h3 m hnr]; exact .inl hsn
          · exact absurd ⟨hma.2.1, hma.2.2, (isIn_dec hs hnr).2 hsn⟩ hc
        · exact h4 m hm hma

/-- What holds between the rounds of the search. -/
structure CInv (f : Flow) (live : List Bool) (first : Int) (q : List (List Int)) (seen : List Bool) (D : Int → Nat) (P : Int → Prop) : Prop where
  ls : seen.length = f.steps.length
  s1 : ∀ n, InR f n → isIn seen n → Alw f live first n ∧ (P n ∨ ∃ p ∈ q, lastD p = n)
  s2 : P first ∨ ∃ p ∈ q, lastD p = first
  s3 : ∀ u, P u → u = first ∨ (InR f u ∧ isIn seen u)
  d0 : D first = 0
  pth : ∀ p ∈ q, Pth f live first p ∧ (∀ n ∈ p, n = first ∨ isIn seen n) ∧ D (lastD p) + 1 = p.length
  done : ∀ u, P u → first ∉ (stepD f u).next ∧ ∀ n ∈ (stepD f u).next, Alw f live first n → isIn seen n ∧ D n ≤ D u + 1
  srt : q.Pairwise fun a b => a.length ≤ b.length
  near : ∀ a ∈ q, ∀ b ∈ q, b.length ≤ a.length + 1
  past : ∀ u, P u → ∀ p ∈ q, D u + 1 ≤ p.length

theorem next_inR {f : Flow} (hval : valid f = true) {u : Int} (hu : InR f u) : ∀ n ∈ (stepD f u).next, InR f n := fun n hn => right_next (valid_step hval hu.1 hu.2) n hn

theorem CInv.step {f : Flow} (hval : valid f = true) {live : List Bool} {first : Int} (hf : InR f first) (hl : live.length = f.steps.length) {l : List Int} {rest : List (List Int)} {seen : List Bool} {D : Int → Nat} {P : Int → Prop}
    (h : CInv f live first (l :: rest) seen D P) (hno : first ∉ (stepD f (lastD l)).next) :
    ∃ q' seen' D' P', cycScan live first l (stepD f (lastD l)).next rest seen = some (q', seen') ∧ CInv f live first q' seen' D' P' ∧ q'.length + seen'.count false + 1 = (l :: rest).length + seen.count false := by
  obtain ⟨hp, hps, hpd⟩ := h.pth l (by simp)
  have hne := hp.ne
  have hlm := lastD_mem hne
  have hur : InR f (lastD l) := by
    rcases hp.ok _ hlm with e | e
    · rw [e]; exact hf
    · exact e.1
  have hus := hps _ hlm
  obtain ⟨news, seen', h1, h2, h3, h4, h5, h6⟩ := scan_some (f := f) (live := live) (first := first) (l := l) hl (q := rest) h.ls (next_inR hval hur) hno
  have hnotnew : ∀ u, (u = first ∨ isIn seen u) → u ∉ news := fun u hu hn => by
    obtain ⟨_, a2, a3⟩ := h2 u hn
    rcases hu with rfl | hu
    · have := a2.2.1; omega
    · exact a3 hu
  have hD : ∀ u, (u = first ∨ isIn seen u) → (if u ∈ news then l.length else D u) = D u := fun u hu => if_neg (hnotnew u hu)
  have hmono : ∀ m, InR f m → isIn seen m → isIn seen' m := fun m hm hs => (h3 m hm).2 (.inl hs)
  have hmin : ∀ p ∈ rest, l.length ≤ p.length := fun p hp => (List.pairwise_cons.1 h.srt).1 p hp
  have hmem : ∀ p, p ∈ rest ++ news.map (fun n => l ++ [n]) ↔ p ∈ rest ∨ ∃ n ∈ news, p = l ++ [n] := fun p => by
    rw [List.mem_append, List.mem_map]
    constructor
    · rintro (h | ⟨n, hn, rfl⟩)
      · exact .inl h
      · exact .inr ⟨n, hn, rfl⟩
    · rintro (h | ⟨n, hn, rfl⟩)
      · exact .inl h
      · exact .inr ⟨n, hn, rfl⟩
  have hlen : ∀ p, p ∈ rest ++ news.map (fun n => l ++ [n]) → l.length ≤ p.length ∧ p.length ≤ l.length + 1 := fun p hp => by
    rcases (hmem p).1 hp with hp | ⟨n, _, rfl⟩
    · exact ⟨hmin p hp, h.near l (by simp) p (by simp [hp])⟩
    · simp
  have hst : ∀ u, P u → (u = first ∨ isIn seen u) := fun u hu => (h.s3 u hu).imp id (·.2)
  refine ⟨_, seen', fun u => if u ∈ news then l.length else D u, fun u => P u ∨ u = lastD l, h1, ⟨h5, fun n hn hs => ?_, ?_, fun u hu => ?_, ?_, fun p hp' => ?_, fun u hu => ?_, ?_, fun a ha b hb => ?_, fun u hu p hp' => ?_⟩, ?_⟩
  · rcases (h3 n hn).1 hs with hs | hs
    · obtain ⟨a1, a2⟩ := h.s1 n hn hs
      refine ⟨a1, ?_⟩
      rcases a2 with a2 | ⟨p, hp', e⟩
      · exact .inl (.inl a2)
      · rcases List.mem_cons.1 hp' with rfl | hp'
        · exact .inl (.inr e.symm)
        · exact .inr ⟨p, (hmem p).2 (.inl hp'), e⟩
    · exact ⟨(h2 n hs).2.1, .inr ⟨l ++ [n], (hmem _).2 (.inr ⟨n, hs, rfl⟩), lastD_snoc _ _⟩⟩
  · rcases h.s2 with h' | ⟨p, hp', e⟩
    · exact .inl (.inl h')
    · rcases List.mem_cons.1 hp' with rfl | hp'
      · exact .inl (.inr e.symm)
      · exact .inr ⟨p, (hmem p).2 (.inl hp'), e⟩
  · rcases hu with hu | rfl
    · rcases h.s3 u hu with e | ⟨a1, a2⟩
      · exact .inl e
      · exact .inr ⟨a1, hmono u a1 a2⟩
    · rcases hus with e | e
      · exact .inl e
      · exact .inr ⟨hur, hmono _ hur e⟩
  · show (if first ∈ news then l.length else D first) = 0
    rw [hD first (.inl rfl)]; exact h.d0
  · rcases (hmem p).1 hp' with hp' | ⟨n, hn, rfl⟩
    · obtain ⟨a1, a2, a3⟩ := h.pth p (by simp [hp'])
      refine ⟨a1, fun m hm => ?_, ?_⟩
      · rcases a2 m hm with e | e
        · exact .inl e
        · rcases a1.ok m hm with e' | e'
          · exact .inl e'
          · exact .inr (hmono m e'.1 e)
      · show (if lastD p ∈ news then l.length else D (lastD p)) + 1 = p.length
        rw [hD _ (a2 _ (lastD_mem a1.ne))]; exact a3
    · obtain ⟨b1, b2, b3⟩ := h2 n hn
      refine ⟨hp.snoc b1 b2 (fun hm => hnotnew n (hps n hm) hn), fun m hm => ?_, ?_⟩
      · rcases List.mem_append.1 hm with hm | hm
        · rcases hps m hm with e | e
          · exact .inl e
          · rcases hp.ok m hm with e' | e'
            · exact .inl e'
            · exact .inr (hmono m e'.1 e)
        · rw [List.mem_singleton] at hm; subst hm
          exact .inr ((h3 m b2.1).2 (.inr hn))
      · show (if lastD (l ++ [n]) ∈ news then l.length else D (lastD (l ++ [n]))) + 1 = (l ++ [n]).length
        rw [lastD_snoc, if_pos hn]; simp
  · rcases hu with hu | rfl
    · obtain ⟨a1, a2⟩ := h.done u hu
      refine ⟨a1, fun n hn ha => ?_⟩
      obtain ⟨b1, b2⟩ := a2 n hn ha
      refine ⟨hmono n ha.1 b1, ?_⟩
      show (if n ∈ news then l.length else D n) ≤ (if u ∈ news then l.length else D u) + 1
      rw [hD n (.inr b1), hD u (hst u hu)]; exact b2
    · refine ⟨hno, fun n hn ha => ⟨h4 n hn ha, ?_⟩⟩
      show (if n ∈ news then l.length else D n) ≤ (if lastD l ∈ news then l.length else D (lastD l)) + 1
      rw [hD (lastD l) hus]
      by_cases hnn : n ∈ news
      · rw [if_pos hnn]; omega
      · rw [if_neg hnn]
        have hsn : isIn seen n := ((h3 n ha.1).1 (h4 n hn ha)).resolve_right hnn
        rcases (h.s1 n ha.1 hsn).2 with a | ⟨p, hp', e⟩
        · have := h.past n a l (by simp); omega
        · have e1 := (h.pth p hp').2.2
          have e2 := h.near l (by simp) p hp'
          rw [e] at e1
          omega
  · rw [List.pairwise_append]
    refine ⟨(List.pairwise_cons.1 h.srt).2, ?_, fun a ha b hb => ?_⟩
    · rw [List.pairwise_map]
      exact List.pairwise_of_forall (by simp)
    · obtain ⟨n, _, rfl⟩ := List.mem_map.1 hb
      have := h.near l (by simp) a (by simp [ha])
      simpa using this
  · have h7 := hlen a ha; have h8 := hlen b hb; omega
  · have h7 := hlen p hp'
    rcases hu with hu | rfl
    · have := h.past u hu l (by simp)
      show (if u ∈ news then l.length else D u) + 1 ≤ p.length
      rw [hD u (hst u hu)]; omega
    · show (if lastD l ∈ news then l.length else D (lastD l)) + 1 ≤ p.length
      rw [hD _ hus]; omega
  · simp only [List.length_append, List.length_map, List.length_cons]; omega

theorem CInv.walk {f : Flow} {live : List Bool} {first : Int} {q : List (List Int)} {seen : List Bool} {D : Int → Nat} {P : Int → Prop} (h : CInv f live first q seen D P) {b : Nat} (hb : ∀ p ∈ q, b < p.length) :
    ∀ {j : Nat} {u : Int}, Wk f live first j u → j < b → P u ∧ D u ≤ j := by
  intro j u hw
  induction hw with
  | start =>
    intro hj
    refine ⟨?_, by rw [h.d0]; exact Nat.zero_le _⟩
    rcases h.s2 with h' | ⟨p, hp, e⟩
    · exact h'
    · have e1 := (h.pth p hp).2.2
      rw [e, h.d0] at e1
      have := hb p hp
      omega
  | @step j u n hu hn ha ih =>
    intro hj
    obtain ⟨h1, h2⟩ := ih (by omega)
    obtain ⟨h3, h4⟩ := (h.done u h1).2 n hn ha
    refine ⟨?_, by omega⟩
    rcases (h.s1 n ha.1 h3).2 with h' | ⟨p, hp, e⟩
    · exact h'
    · have e1 := (h.pth p hp).2.2
      rw [e] at e1
      have := hb p hp
      omega

theorem cycGo_spec {f : Flow} (hval : valid f = true) {live : List Bool} {first : Int} (hf : InR f first) (hl : live.length = f.steps.length) : ∀ (k : Nat) (q : List (List Int)) (seen : List Bool) (D : Int → Nat) (P : Int → Prop),
    CInv f live first q seen D P → q.length + seen.count false ≤ k →
    (cycGo f live first k q seen = [] → ∀ j u, Wk f live first j u → first ∉ (stepD f u).next) ∧
    (cycGo f live first k q seen ≠ [] → Pth f live first (cycGo f live first k q seen) ∧ first ∈ (stepD f (lastD (cycGo f live first k q seen))).next ∧ ∀ j u, Wk f live first j u → first ∈ (stepD f u).next → (cycGo f live first k q seen).length ≤ j + 1) := by
  intro k
  induction k with
  | zero =>
    intro q seen D P h hk
    have : q = [] := List.eq_nil_of_length_eq_zero (by omega)
    subst this
    unfold cycGo
    exact ⟨fun _ j u hw => (h.done u (h.walk (b := j + 1) (by simp) hw (by omega)).1).1, fun h => absurd rfl h⟩
  | succ k ih =>
    intro q seen D P h hk
    cases q with
    | nil =>
      unfold cycGo
      exact ⟨fun _ j u hw => (h.done u (h.walk (b := j + 1) (by simp) hw (by omega)).1).1, fun h => absurd rfl h⟩
    | cons l rest =>
      unfold cycGo
      obtain ⟨hp, _, _⟩ := h.pth l (by simp)
      by_cases hin : first ∈ (stepD f (lastD l)).next
      · rw [scan_none.2 hin]
        refine ⟨fun e => absurd e hp.ne, fun _ => ⟨hp, hin, fun j u hw hfu => ?_⟩⟩
        rcases Nat.lt_or_ge (j + 1) l.length with hlt | hge
        · exfalso
          have hmin : ∀ p ∈ l :: rest, j + 1 < p.length := fun p hp' => by
            rcases List.mem_cons.1 hp' with rfl | hp'
            · exact hlt
            · have := (List.pairwise_cons.1 h.srt).1 p hp'; omega
          exact (h.done u (h.walk hmin hw (by omega)).1).1 hfu
        · exact hge
      · obtain ⟨q', seen', D', P', h1, h2, h3⟩ := h.step hval hf hl hin
        rw [h1]
        exact ih q' seen' D' P' h2 (by omega)

theorem cycle_spec {f : Flow} (hval : valid f = true) {live : List Bool} {first : Int} (hf : InR f first) (hl : live.length = f.steps.length) :
    (cycle f live first = [] → ∀ j u, Wk f live first j u → first ∉ (stepD f u).next) ∧
    (cycle f live first ≠ [] → Pth f live first (cycle f live first) ∧ first ∈ (stepD f (lastD (cycle f live first))).next ∧ ∀ j u, Wk f live first j u → first ∈ (stepD f u).next → (cycle f live first).length ≤ j + 1) := by
  unfold cycle
  refine cycGo_spec hval hf hl _ _ _ (fun _ => 0) (fun _ => False) ⟨by simp, fun n _ h => absurd h (isIn_replicate _ _), .inr ⟨[first], by simp, rfl⟩, fun _ h => h.elim, rfl, fun p hp => ?_, fun _ h => h.elim, by simp, by simp, fun _ h => h.elim⟩ (by simp)
  rw [List.mem_singleton] at hp
  subst hp
  exact ⟨⟨rfl, by simp, by simp, fun i hi => by simp at hi⟩, by simp, rfl⟩

/-! ### What Check finds -/

theorem bestL_spec (f : Flow) (l : List Int) : (bestL f l = [] → ∀ n ∈ l, cycle f (reached f 0) n = []) ∧ (bestL f l ≠ [] → (∃ n ∈ l, bestL f l = cycle f (reached f 0) n) ∧ ∀ n ∈ l, cycle f (reached f 0) n ≠ [] → (bestL f l).length ≤ (cycle f (reached f 0) n).length) := by
  refine list_snoc_ind (p := fun l => (bestL f l = [] → ∀ n ∈ l, cycle f (reached f 0) n = []) ∧ (bestL f l ≠ [] → (∃ n ∈ l, bestL f l = cycle f (reached f 0) n) ∧ ∀ n ∈ l, cycle f (reached f 0) n ≠ [] → (bestL f l).length ≤ (cycle f (reached f 0) n).length)) ?_ ?_ l
  · exact ⟨by simp, fun h => absurd rfl h⟩
  · rintro l x ⟨ih1, ih2⟩
    rw [bestL_snoc]
    unfold bestStep
    by_cases hc : 0 < (cycle f (reached f 0) x).length ∧ (bestL f l = [] ∨ (cycle f (reached f 0) x).length < (bestL f l).length)
    · rw [if_pos hc]
      refine ⟨fun h => ?_, fun _ => ⟨⟨x, by simp, rfl⟩, fun n hn hne => ?_⟩⟩
      · rw [h] at hc; simp at hc
      · rcases List.mem_append.1 hn with h | h
        · rcases hc.2 with h2 | h2
          · exact absurd (ih1 h2 n h) hne
          · by_cases h3 : bestL f l = []
            · exact absurd (ih1 h3 n h) hne
            · have := (ih2 h3).2 n h hne; omega
        · rw [List.mem_singleton] at h; subst h; exact Nat.le_refl _
    · rw [if_neg hc]
      refine ⟨fun h n hn => ?_, fun h => ⟨?_, fun n hn hne => ?_⟩⟩
      · rcases List.mem_append.1 hn with h' | h'
        · exact ih1 h n h'
        · rw [List.mem_singleton] at h'; subst h'
          by_cases h3 : cycle f (reached f 0) n = []
          · exact h3
          · exact absurd ⟨List.length_pos_iff.2 h3, .inl h⟩ hc
      · obtain ⟨n, hn, e⟩ := (ih2 h).1
        exact ⟨n, by simp [hn], e⟩
      · rcases List.mem_append.1 hn with h' | h'
        · exact (ih2 h).2 n h' hne
        · rw [List.mem_singleton] at h'; subst h'
          rcases Nat.lt_or_ge (cycle f (reached f 0) n).length (bestL f l).length with hl | hl
          · exact absurd ⟨List.length_pos_iff.2 hne, .inr hl⟩ hc
          · exact hl

/-- The three answers of Check. -/
theorem check_spec (f : Flow) :
    (check f = (0, []) ∧ (∀ n ∈ reach f 0, alive f n = true) ∧ ∀ n ∈ reach f 0, cycle f (reached f 0) n = []) ∨
    (∃ n ∈ reach f 0, check f = (1, [n]) ∧ alive f n = false) ∨
    (∃ n ∈ reach f 0, cycle f (reached f 0) n ≠ [] ∧ check f = (2, cycle f (reached f 0) n) ∧ (∀ n ∈ reach f 0, alive f n = true) ∧ ∀ m ∈ reach f 0, cycle f (reached f 0) m ≠ [] → (cycle f (reached f 0) n).length ≤ (cycle f (reached f 0) m).length) := by
  unfold check deadL
  cases hd : (reach f 0).find? fun n => !alive f n with
  | some n =>
    have h1 := List.mem_of_find?_eq_some hd
    have h2 := List.find?_some hd
    exact .inr (.inl ⟨n, h1, rfl, by simpa using h2⟩)
  | none =>
    have hall : ∀ n ∈ reach f 0, alive f n = true := fun n hn => by
      have := List.find?_eq_none.1 hd n hn
      simpa using this
    obtain ⟨s1, s2⟩ := bestL_spec f (reach f 0)
    by_cases hb : bestL f (reach f 0) = []
    · left
      simp only [if_pos hb]
      exact ⟨trivial, hall, s1 hb⟩
    · right; right
      obtain ⟨⟨n, hn, e⟩, h3⟩ := s2 hb
      refine ⟨n, hn, by rw [← e]; exact hb, ?_, hall, fun m hm hne => by rw [← e]; exact h3 m hm hne⟩
      simp only [if_neg hb]
      rw [e]
end Go.Proofs.Ytijmlfmapfhabaa

/- Cycles of steps that follow by Next alone, in plain Lean. -/
namespace Go.Proofs.Ytijmlfmapfhabaa

/-- So many steps by Next alone. -/
inductive Nst (f : Flow) : Nat → Int → Int → Prop where
  | zero (a : Int) : Nst f 0 a a
  | succ {d : Nat} {a b c : Int} : Nst f d a b → c ∈ (stepD f b).next → Nst f (d + 1) a c

theorem Nst.trans {f : Flow} {d e : Nat} {a b c : Int} (h1 : Nst f d a b) (h2 : Nst f e b c) : Nst f (d + e) a c := by
  induction h2 with
  | zero => exact h1
  | succ _ hc ih => exact Nst.succ (ih h1) hc
theorem Nst.rch {f : Flow} {d : Nat} {a b : Int} (h : Nst f d a b) : Rch f a b := by
  induction h with
  | zero => exact .refl _
  | succ _ hc ih => exact .step ih (mem_after.2 (.inl hc))
theorem Nst.inR {f : Flow} (hval : valid f = true) {d : Nat} {a b : Int} (h : Nst f d a b) (ha : InR f a) : InR f b := h.rch.inR hval ha

/-- The walk as a function. -/
theorem Nst.fn {f : Flow} {d : Nat} {a c : Int} (h : Nst f d a c) : ∃ w : Nat → Int, w 0 = a ∧ w d = c ∧ ∀ i, i < d → w (i + 1) ∈ (stepD f (w i)).next := by
  induction h with
  | zero a => exact ⟨fun _ => a, rfl, rfl, fun i hi => by omega⟩
  | @succ d a b c hab hc ih =>
    obtain ⟨w, h0, hd, hs⟩ := ih
    refine ⟨fun i => if i ≤ d then w i else c, by simp [h0], by simp only [show ¬ d + 1 ≤ d from by omega, if_false], fun i hi => ?_⟩
    by_cases hid : i < d
    · simp only [show i + 1 ≤ d from by omega, show i ≤ d from by omega, if_true]
      exact hs i hid
    · have e : i = d := by omega
      subst e
      simp only [Nat.le_refl, if_true, show ¬ i + 1 ≤ i from by omega, if_false, hd]
      exact hc

theorem argmin (w : Nat → Int) (d : Nat) (hd : 0 < d) : ∃ i, i < d ∧ ∀ j, j < d → w i ≤ w j := by
  induction d with
  | zero => omega
  | succ d ih =>
    by_cases h0 : d = 0
    · subst h0; exact ⟨0, by omega, fun j hj => by rw [show j = 0 from by omega]; exact Int.le_refl _⟩
    · obtain ⟨i, hi, hm⟩ := ih (by omega)
      rcases Int.lt_or_le (w d) (w i) with h | h
      · exact ⟨d, by omega, fun j hj => by
          by_cases e : j = d
          · rw [e]; exact Int.le_refl _
          · have := hm j (by omega); omega⟩
      · exact ⟨i, by omega, fun j hj => by
          by_cases e : j = d
          · rw [e]; exact h
          · exact hm j (by omega)⟩

/-- A walk that comes back holds a cycle that begins with its smallest step. -/
theorem closed_walk {f : Flow} (hval : valid f = true) (h0 : InR f 0) {d : Nat} {a : Int} (ha : Rch f 0 a) (hd : 0 < d) (h : Nst f d a a) :
    ∃ m j u, Rch f 0 m ∧ Wk f (reached f 0) m j u ∧ m ∈ (stepD f u).next ∧ j + 1 ≤ d := by
  obtain ⟨w, w0, wd, ws⟩ := h.fn
  obtain ⟨i0, hi0, hmin⟩ := argmin w d hd
  -- the walk from its smallest step on
  have hstep : ∀ i, w ((i0 + (i + 1)) % d) ∈ (stepD f (w ((i0 + i) % d))).next := by
    intro i
    have hlt : (i0 + i) % d < d := Nat.mod_lt _ hd
    have h1 := ws _ hlt
    by_cases e : (i0 + i) % d + 1 = d
    · have : (i0 + (i + 1)) % d = 0 := by
        rw [← Nat.add_assoc, Nat.add_mod, show (i0 + i) % d + 1 % d = (i0 + i) % d + 1 % d from rfl]
        by_cases hd1 : d = 1
        · subst hd1; exact Nat.mod_one _
        · rw [Nat.mod_eq_of_lt (show 1 < d from by omega), e, Nat.mod_self]
      rw [this, w0, ← wd]
      rw [e] at h1
      exact h1
    · have : (i0 + (i + 1)) % d = (i0 + i) % d + 1 := by
        rw [← Nat.add_assoc, Nat.add_mod]
        have hd1 : 1 < d := by omega
        rw [Nat.mod_eq_of_lt hd1]
        exact Nat.mod_eq_of_lt (by omega)
      rw [this]
      exact h1
  let v : Nat → Int := fun i => w ((i0 + i) % d)
  have v0 : v 0 = w i0 := by show w ((i0 + 0) % d) = w i0; rw [Nat.add_zero, Nat.mod_eq_of_lt hi0]
  have vd : v d = w i0 := by show w ((i0 + d) % d) = w i0; rw [Nat.add_mod_right, Nat.mod_eq_of_lt hi0]
  have vmin : ∀ i, w i0 ≤ v i := fun i => hmin _ (Nat.mod_lt _ hd)
  have hwr : ∀ i, i ≤ d → Rch f 0 (w i) := by
    intro i
    induction i with
    | zero => intro _; rw [w0]; exact ha
    | succ i ih => intro hi; exact .step (ih (by omega)) (mem_after.2 (.inl (ws i (by omega))))
  have vr : ∀ i, Rch f 0 (v i) := fun i => hwr _ (Nat.le_of_lt (Nat.mod_lt _ hd))
  have vs : ∀ i, v (i + 1) ∈ (stepD f (v i)).next := hstep
  -- where it first comes back
  have hfirst : ∃ j, 0 < j ∧ j ≤ d ∧ v j = w i0 ∧ ∀ i, 0 < i → i < j → v i ≠ w i0 := by
    have : ∃ j, 0 < j ∧ j ≤ d ∧ v j = w i0 := ⟨d, hd, Nat.le_refl _, vd⟩
    obtain ⟨j, hj⟩ := this
    induction j using Nat.strongRecOn with
    | _ j ih =>
      by_cases hex : ∃ i, 0 < i ∧ i < j ∧ v i = w i0
      · obtain ⟨i, h1, h2, h3⟩ := hex
        exact ih i h2 ⟨h1, by omega, h3⟩
      · exact ⟨j, hj.1, hj.2.1, hj.2.2, fun i h1 h2 h3 => hex ⟨i, h1, h2, h3⟩⟩
  obtain ⟨j, j0, jd, jv, jn⟩ := hfirst
  have hwk : ∀ i, i < j → Wk f (reached f 0) (w i0) i (v i) := by
    intro i
    induction i with
    | zero => intro _; rw [v0]; exact .start
    | succ i ih =>
      intro hi
      refine .step (ih (by omega)) (vs i) ⟨(vr _).inR hval h0, ?_, (reached_iff hval h0 ((vr _).inR hval h0)).2 (vr _)⟩
      have := vmin (i + 1)
      have := jn (i + 1) (by omega) hi
      omega
  refine ⟨w i0, j - 1, v (j - 1), hwr i0 (by omega), hwk (j - 1) (by omega), ?_, by omega⟩
  have := vs (j - 1)
  rw [show j - 1 + 1 = j from by omega, jv] at this
  exact this

theorem mem_reach_inR {f : Flow} {n x : Int} (h : x ∈ reach f n) : InR f x := by
  unfold reach at h
  split at h
  · have := (mem_trues0.1 h).1
    rw [reached_length] at this
    exact this
  · simp at h
theorem zero_inR {f : Flow} (hval : valid f = true) : InR f 0 := ⟨by omega, by have := valid_n hval; omega⟩

/-- No walk by Next comes back sooner than the cycle that Check finds; none at all if it finds nothing. -/
theorem law_shortest {f : Flow} (hval : valid f = true) {a : Int} (ha : a ∈ reach f 0) {d : Nat} (hd : 0 < d) (h : Nst f d a a) : (check f).1 = 1 ∨ ((check f).1 = 2 ∧ (check f).2.length ≤ d) := by
  have h0 := zero_inR hval
  obtain ⟨m, j, u, h1, h2, h3, h4⟩ := closed_walk hval h0 ((mem_reach hval h0).1 ha) hd h
  have hm := (mem_reach hval h0).2 h1
  obtain ⟨s1, s2⟩ := cycle_spec hval (h1.inR hval h0) (live := reached f 0) (reached_length f 0)
  have hne : cycle f (reached f 0) m ≠ [] := fun e => s1 e j u h2 h3
  rcases check_spec f with ⟨_, _, hc⟩ | ⟨n, _, hc, _⟩ | ⟨n, _, _, hc, _, hmin⟩
  · exact absurd (hc m hm) hne
  · exact .inl (by rw [hc])
  · right
    rw [hc]
    refine ⟨rfl, ?_⟩
    have := hmin m hm hne
    have := (s2 hne).2.2 j u h2 h3
    simp only
    omega

/-- The step of a PDead can be reached, and no end from it. -/
theorem law_dead {f : Flow} (hval : valid f = true) (h : (check f).1 = 1) : ∃ n, (check f).2 = [n] ∧ n ∈ reach f 0 ∧ ∀ m ∈ reach f n, InR f m ∧ isEnd (stepD f m) = false := by
  have h0 := zero_inR hval
  rcases check_spec f with ⟨hc, _⟩ | ⟨n, hn, hc, hal⟩ | ⟨n, _, _, hc, _⟩
  · rw [hc] at h; cases h
  · have hnr : InR f n := mem_reach_inR hn
    refine ⟨n, by rw [hc], hn, fun m hm => ?_⟩
    have hmr : InR f m := mem_reach_inR hm
    refine ⟨hmr, ?_⟩
    cases he : isEnd (stepD f m) with
    | false => rfl
    | true =>
      exfalso
      have h1 := (mem_reach hval hnr).1 hm
      have h2 := (mem_reach hval h0).1 hn
      have h3 : m ∈ ends f := by
        unfold ends
        exact List.mem_filter.2 ⟨(mem_reach hval h0).2 (h2.trans h1), he⟩
      have h4 : alive f n = true := by
        unfold alive
        rw [List.any_eq_true]
        exact ⟨m, h3, (reached_iff hval hnr hmr).2 h1⟩
      rw [hal] at h4; cases h4
  · rw [hc] at h; cases h
theorem law_cycle {f : Flow} (hval : valid f = true) (h : (check f).1 ≠ 0) (h1 : (check f).1 ≠ 1) : ∃ n, (check f).1 = 2 ∧ n ∈ reach f 0 ∧ Pth f (reached f 0) n (check f).2 ∧ n ∈ (stepD f (lastD (check f).2)).next := by
  have h0 := zero_inR hval
  rcases check_spec f with ⟨hc, _⟩ | ⟨n, hn, hc, hal⟩ | ⟨n, hn, hne, hc, _⟩
  · rw [hc] at h; exact absurd rfl h
  · rw [hc] at h1; exact absurd rfl h1
  · obtain ⟨_, s2⟩ := cycle_spec hval (show InR f n from mem_reach_inR hn) (live := reached f 0) (reached_length f 0)
    rw [hc]
    exact ⟨n, rfl, hn, (s2 hne).1, (s2 hne).2.1⟩
theorem law_none {f : Flow} (h : (check f).1 = 0) : check f = (0, []) := by
  rcases check_spec f with ⟨hc, _⟩ | ⟨n, hn, hc, hal⟩ | ⟨n, hn, hne, hc, _⟩
  · exact hc
  · rw [hc] at h; cases h
  · rw [hc] at h; cases h

noncomputable def toB (p : Prop) : Bool := @decide p (Classical.propDecidable p)
theorem toB_iff {p : Prop} : toB p = true ↔ p := ⟨fun h => @of_decide_eq_true p (Classical.propDecidable p) h, fun h => @decide_eq_true p (Classical.propDecidable p) h⟩
/-- Where nothing is wrong, steps fall along Next. -/
theorem falls {f : Flow} (hval : valid f = true) (h : (check f).1 = 0) : ∃ rk : Int → Nat, (∀ a ∈ reach f 0, rk a < f.steps.length) ∧ ∀ a ∈ reach f 0, ∀ c ∈ (stepD f a).next, rk c < rk a := by
  have h0 := zero_inR hval
  have hno : ∀ a ∈ reach f 0, ∀ d, 0 < d → ¬ Nst f d a a := fun a ha d hd hn => by
    rcases law_shortest hval ha hd hn with h' | ⟨h', _⟩ <;> omega
  refine ⟨fun a => (List.range f.steps.length).countP fun b : Nat => toB (∃ d, 0 < d ∧ Nst f d a (b : Int)), fun a ha => ?_, fun a ha c hc => ?_⟩
  · have har : InR f a := mem_reach_inR ha
    refine Nat.lt_of_le_of_ne (Nat.le_trans List.countP_le_length (by simp)) fun e => ?_
    have h1 : ((List.range f.steps.length).countP fun b : Nat => toB (∃ d, 0 < d ∧ Nst f d a (b : Int))) = (List.range f.steps.length).length := by rw [List.length_range]; exact e
    have h2 := List.countP_eq_length.1 h1 a.toNat (List.mem_range.2 (by have := har.1; have := har.2; omega))
    obtain ⟨d, hd, hn⟩ := toB_iff.1 h2
    rw [show ((a.toNat : Nat) : Int) = a from by have := har.1; omega] at hn
    exact hno a ha d hd hn
  · have har : InR f a := mem_reach_inR ha
    have hcr : InR f c := next_inR hval har c hc
    have hcn : c.toNat < f.steps.length := by have := hcr.1; have := hcr.2; omega
    have hce : ((c.toNat : Nat) : Int) = c := by have := hcr.1; omega
    have hsub : ∀ b : Nat, (∃ d, 0 < d ∧ Nst f d c (b : Int)) → ∃ d, 0 < d ∧ Nst f d a (b : Int) := fun b ⟨d, hd, hn⟩ => ⟨1 + d, by omega, Nst.trans (Nst.succ (.zero a) hc) hn⟩
    have hcc : ∃ d, 0 < d ∧ Nst f d a ((c.toNat : Nat) : Int) := ⟨1, by omega, by rw [hce]; exact .succ (.zero a) hc⟩
    have hnc : ¬ ∃ d, 0 < d ∧ Nst f d c ((c.toNat : Nat) : Int) := fun ⟨d, hd, hn⟩ => by
      rw [hce] at hn
      exact hno c ((mem_reach hval h0).2 (.step ((mem_reach hval h0).1 ha) (mem_after.2 (.inl hc)))) d hd hn
    have key : ∀ (l : List Nat) (p q : Nat → Bool), (∀ b, p b = true → q b = true) → (∃ b ∈ l, p b = false ∧ q b = true) → l.countP p < l.countP q := by
      intro l p q hpq
      induction l with
      | nil => rintro ⟨b, hb, _⟩; simp at hb
      | cons x r ih =>
        rintro ⟨b, hb, h1, h2⟩
        have hle : r.countP p ≤ r.countP q := List.countP_mono_left fun b _ => hpq b
        rw [List.countP_cons, List.countP_cons]
        by_cases hbx : b = x
        · subst hbx; rw [h1, h2]; simp; omega
        · have := ih ⟨b, (List.mem_cons.1 hb).resolve_left hbx, h1, h2⟩
          have h3 := hpq x
          cases hp : p x <;> cases hq : q x <;> simp_all <;> omega
    exact key _ _ _ (fun b hb => toB_iff.2 (hsub b (toB_iff.1 hb))) ⟨c.toNat, List.mem_range.2 hcn, Bool.eq_false_iff.2 fun e => hnc (toB_iff.1 e), toB_iff.2 hcc⟩
end Go.Proofs.Ytijmlfmapfhabaa

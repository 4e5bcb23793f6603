/- The flows that integers determine are valid. -/
import Derived.Test.YtnggomfbgmlkhaaGreatDoorYr
import Derived.Test.YtnggomfbgmlkhaaGreatDoorYp

namespace Go.Proofs.YtnggomfbgmlkhaaGreatDoor

theorem fdiv_I64 {c : Int} (h : I64 c) (j : Nat) : I64 (c.fdiv (2 ^ j)) := by
 unfold I64 at h ⊢
 have hp : (0 : Int) < 2 ^ j := Int.pow_pos (by omega)
 have e : c.fdiv (2 ^ j) = c / 2 ^ j := Int.fdiv_eq_ediv_of_nonneg _ (by omega)
 rw [e]
 constructor
 ·have : -9223372036854775808 ≤ c / 2 ^ j := by
   rw [Int.le_ediv_iff_mul_le hp]
   have h1 : (1 : Int) ≤ 2 ^ j := by omega
   have h2 : (-9223372036854775808 : Int) * 2 ^ j ≤ -9223372036854775808 * 1 := Int.mul_le_mul_of_nonpos_left (by omega) h1
   omega
  exact this
 ·rcases Int.lt_or_le c 0 with h0 | h0
  ·have : c / 2 ^ j < 0 := Int.ediv_neg_of_neg_of_pos h0 hp
   omega
  ·have : c / 2 ^ j ≤ c := Int.ediv_le_self _ h0
   omega

def later (y : Y6) (i k : Nat) : Bool :=
 (decide (k = i + 1) && decide (0 < pickM y.y2 8)) || (decide (i + 1 < k) && decide (pickM (y.y2.fdiv (2 ^ k)) 4 = 0)) || (decide (k ≤ i) && decide (pickM (y.y2.fdiv (2 ^ k)) 41 = 0))
def nextStep (y : Y6) (i : Nat) (acc : List Int) (k : Nat) : List Int := if later y i k = true ∧ acc.length < 4 then acc ++ [(k : Int)] else acc
def nextTo (y : Y6) (i k : Nat) : List Int := (List.range k).foldl (nextStep y i) []
theorem nextTo_succ (y : Y6) (i k : Nat) : nextTo y i (k + 1) = nextStep y i (nextTo y i k) k := by
 unfold nextTo; rw [List.range_succ, List.foldl_append]; rfl

def stepOf (x : List Y6) (n i : Nat) : Step :=
 match x[i]? with
 | none => ⟨1 + i, [(i : Int)], 10, 10, [], -1, 0⟩
 | some y => ⟨1 + pickM y.y0 6, [pickM (y.y0.tdiv 6) 5, 5 + pickM (y.y0.tdiv 30) 5], 1 + pickM y.y1 20, 1 + pickM y.y1 20 + pickM (y.y1.tdiv 20) 15, nextTo y i n,
   if pickM y.y3 3 = 0 then pickM (y.y3.tdiv 3) n else -1, if pickM y.y3 3 = 0 then 1 + pickM y.y4 3 else 0⟩
def winOf (x : List Y6) (n i : Nat) : List Window :=
 match x[i]? with
 | none => []
 | some y => if pickM (y.y4.tdiv 3) n ≠ i ∧ pickM y.y4 2 = 0 then [⟨i, pickM (y.y4.tdiv 3) n, pickM y.y5 120⟩] else []

def madeN (x : List Y6) : Nat := max 1 (min x.length 10)
def stepsTo (x : List Y6) (n k : Nat) : List Step := (List.range k).map (stepOf x n)
def winsTo (x : List Y6) (n k : Nat) : List Window := (List.range k).flatMap (winOf x n)
theorem stepsTo_succ (x : List Y6) (n k : Nat) : stepsTo x n (k + 1) = stepsTo x n k ++ [stepOf x n k] := by
 unfold stepsTo; rw [List.range_succ, List.map_append]; rfl
theorem winsTo_succ (x : List Y6) (n k : Nat) : winsTo x n (k + 1) = winsTo x n k ++ winOf x n k := by
 unfold winsTo; rw [List.range_succ, List.flatMap_append]; simp
def made (x : List Y6) : Flow :=
 ⟨match x[0]? with | none => 2 | some y => pickM y.y5 7, match x[0]? with | none => 9 | some y => pickM y.y5 7 + pickM (y.y5.tdiv 7) 20, stepsTo x (madeN x) (madeN x), winsTo x (madeN x) (min (madeN x) x.length)⟩

theorem nextTo_len (y : Y6) (i k : Nat) : (nextTo y i k).length ≤ 4 := by
 induction k with
 | zero => simp [nextTo]
 | succ k ih =>
  rw [nextTo_succ]
  unfold nextStep
  split
  ·rw [List.length_append]; rename_i h; simp; omega
  ·exact ih

theorem ascending_iff (l : List Int) (lo hi : Int) : ascending l lo hi = true ↔ (∀ m ∈ l, lo ≤ m ∧ m ≤ hi) ∧ l.Pairwise (· < ·) := by
 have go : ∀ (l : List Int) (p : Int), ascGo lo hi p l = true ↔ (∀ m ∈ l, lo ≤ m ∧ m ≤ hi) ∧ (p :: l).Pairwise (· < ·) := by
  intro l
  induction l with
  | nil => simp [ascGo]
  | cons n r ih =>
   intro p
   simp only [ascGo, within, Bool.and_eq_true, decide_eq_true_eq, ih, List.pairwise_cons, List.mem_cons]
   constructor
   ·rintro ⟨⟨⟨h1, h2⟩, h3⟩, h4, h5, h6⟩
    refine ⟨?_, ?_, h5, h6⟩
    ·rintro m (rfl | hm)
     ·exact ⟨h1, h2⟩
     ·exact h4 m hm
    ·rintro m (rfl | hm)
     ·exact h3
     ·have := h5 m hm; omega
   ·rintro ⟨h1, h2, h3, h4⟩
    exact ⟨⟨h1 n (.inl rfl), h2 n (.inl rfl)⟩, fun m hm => h1 m (.inr hm), h3, h4⟩
 cases l with
 | nil => simp [ascending]
 | cons n r =>
  simp only [ascending, within, Bool.and_eq_true, decide_eq_true_eq, go, List.mem_cons]
  constructor
  ·rintro ⟨h1, h2, h3⟩
   refine ⟨?_, h3⟩
   rintro m (rfl | hm)
   ·exact h1
   ·exact h2 m hm
  ·rintro ⟨h1, h2⟩
   exact ⟨h1 n (.inl rfl), fun m hm => h1 m (.inr hm), h2⟩

theorem nextTo_asc (y : Y6) (i k : Nat) : (∀ m ∈ nextTo y i k, 0 ≤ m ∧ m < k) ∧ (nextTo y i k).Pairwise (· < ·) := by
 induction k with
 | zero => simp [nextTo]
 | succ k ih =>
  rw [nextTo_succ]
  unfold nextStep
  split
  ·refine ⟨fun m hm => ?_, ?_⟩
   ·rcases List.mem_append.1 hm with h | h
    ·have := ih.1 m h; omega
    ·rw [List.mem_singleton] at h; omega
   ·rw [List.pairwise_append]
    exact ⟨ih.2, by simp, fun a ha b hb => by have := ih.1 a ha; rw [List.mem_singleton] at hb; omega⟩
  ·exact ⟨fun m hm => by have := ih.1 m hm; omega, ih.2⟩

theorem madeN_range (x : List Y6) : 1 ≤ madeN x ∧ madeN x ≤ 10 := by unfold madeN; omega

theorem stepOf_right (x : List Y6) (n i : Nat) (hn : 1 ≤ n) (hn2 : n ≤ 10) (hi : i < n) : rightStep (stepOf x n i) n = true := by
 unfold stepOf
 cases x[i]? with
 | none =>
  simp only [rightStep, within, Bool.and_eq_true, Bool.or_eq_true, decide_eq_true_eq, beq_iff_eq, ascending_iff]
  simp
  omega
 | some y =>
  have p1 := pickM_range (c := y.y0) (n := 6) (by omega)
  have p2 := pickM_range (c := y.y0.tdiv 6) (n := 5) (by omega)
  have p3 := pickM_range (c := y.y0.tdiv 30) (n := 5) (by omega)
  have p4 := pickM_range (c := y.y1) (n := 20) (by omega)
  have p5 := pickM_range (c := y.y1.tdiv 20) (n := 15) (by omega)
  have p6 := pickM_range (c := y.y3.tdiv 3) (n := n) (by omega)
  have p7 := pickM_range (c := y.y4) (n := 3) (by omega)
  have q1 := nextTo_len y i n
  have q2 := nextTo_asc y i n
  simp only [rightStep, within, Bool.and_eq_true, Bool.or_eq_true, decide_eq_true_eq, beq_iff_eq, ascending_iff]
  refine ⟨⟨⟨⟨⟨⟨⟨?_, ?_, ?_⟩, ?_⟩, ?_⟩, ?_⟩, ?_⟩, ?_⟩, ?_⟩
  ·by_cases h : pickM y.y3 3 = 0
   ·right; rw [if_pos h, if_pos h]; omega
   ·left; rw [if_neg h, if_neg h]; omega
  ·simp
  ·omega
  ·omega
  ·refine ⟨?_, ?_⟩
   ·intro m hm
    simp only [List.mem_cons, List.not_mem_nil, or_false] at hm
    rcases hm with rfl | rfl <;> omega
   ·simp; omega
  ·exact ⟨fun m hm => by have := q2.1 m hm; omega, q2.2⟩
  ·omega
  ·omega
  ·omega

theorem winsTo_ok (x : List Y6) (n : Nat) (hn : 1 ≤ n) (k : Nat) : (winsTo x n k).length ≤ k ∧ ∀ w ∈ winsTo x n k, w.src < k := by
 induction k with
 | zero => simp [winsTo]
 | succ k ih =>
  rw [winsTo_succ]
  have h : (winOf x n k).length ≤ 1 ∧ ∀ w ∈ winOf x n k, w.src = k := by
   unfold winOf
   cases x[k]? with
   | none => simp
   | some y => simp only; split <;> simp
  refine ⟨by rw [List.length_append]; omega, fun w hw => ?_⟩
  rcases List.mem_append.1 hw with h1 | h1
  ·have := ih.2 w h1; omega
  ·have := h.2 w h1; omega

theorem winsOk_append (n : Int) : ∀ (a pre b : List Window), winsOk n pre (a ++ b) = (winsOk n pre a && winsOk n (pre ++ a) b)
 | [], pre, b => by simp [winsOk]
 | w :: a, pre, b => by
  simp only [List.cons_append, winsOk]
  rw [winsOk_append n a (pre ++ [w]) b]
  simp [Bool.and_assoc]

theorem winsTo_right (x : List Y6) (n : Nat) (hn : 1 ≤ n) (k : Nat) (hk : k ≤ n) : winsOk n [] (winsTo x n k) = true := by
 induction k with
 | zero => simp [winsTo, winsOk]
 | succ k ih =>
  rw [winsTo_succ, winsOk_append, ih (by omega), Bool.true_and, List.nil_append]
  have hs := (winsTo_ok x n hn k).2
  unfold winOf
  cases x[k]? with
  | none => simp [winsOk]
  | some y =>
   simp only
   split
   ·rename_i h
    have p1 := pickM_range (c := y.y4.tdiv 3) (n := n) (by omega)
    have p2 := pickM_range (c := y.y5) (n := 120) (by omega)
    simp only [winsOk, rightWindow, within, Bool.and_eq_true, decide_eq_true_eq, bne_iff_ne, ne_eq, Bool.and_true]
    refine ⟨⟨⟨⟨by omega, by omega⟩, fun e => h.1 e.symm⟩, by omega⟩, ?_⟩
    unfold follows
    cases hl : (winsTo x n k).getLast? with
    | none => rfl
    | some v =>
     have := hs v (List.mem_of_getLast? hl)
     simp only [winLess, Bool.or_eq_true, decide_eq_true_eq]
     left; exact this
   ·simp [winsOk]

theorem made_len (x : List Y6) : (made x).steps.length = madeN x := by simp [made, stepsTo]
theorem made_valid (x : List Y6) : valid (made x) = true := by
 have hn := madeN_range x
 have hl := made_len x
 unfold valid
 simp only [Bool.and_eq_true, List.all_eq_true]
 refine ⟨⟨⟨⟨?_, ?_⟩, ?_⟩, ?_⟩, ?_⟩
 ·unfold rightMoves made
  simp only [Bool.and_eq_true, decide_eq_true_eq]
  cases x[0]? with
  | none => simp
  | some y =>
   have p1 := pickM_range (c := y.y5) (n := 7) (by omega)
   have p2 := pickM_range (c := y.y5.tdiv 7) (n := 20) (by omega)
   simp only; omega
 ·unfold within; simp only [Bool.and_eq_true, decide_eq_true_eq]; omega
 ·have := (winsTo_ok x (madeN x) hn.1 (min (madeN x) x.length)).1
  have h2 := Nat.min_le_left (madeN x) x.length
  simp only [made]
  exact decide_eq_true (by have h3 := Nat.le_trans this h2; omega)
 ·intro s hs
  rw [hl]
  unfold made stepsTo at hs
  obtain ⟨i, hi, rfl⟩ := List.mem_map.1 hs
  exact stepOf_right x _ i hn.1 hn.2 (List.mem_range.1 hi)
 ·rw [hl]
  exact winsTo_right x _ hn.1 _ (Nat.min_le_left _ _)

/-- The flow of the chapter's examples. -/
def exF : Flow := ⟨5, 5, [⟨1, [0], 10, 10, [1, 2], -1, 0⟩, ⟨1, [0], 10, 10, [3], -1, 0⟩, ⟨1, [0], 10, 10, [3], -1, 0⟩, ⟨1, [0], 10, 10, [4], 1, 1⟩, ⟨1, [0], 10, 10, [], -1, 0⟩], []⟩
/-- The same, but without an end. -/
def exG : Flow := ⟨5, 5, [⟨1, [0], 10, 10, [1, 2], -1, 0⟩, ⟨1, [0], 10, 10, [3], -1, 0⟩, ⟨1, [0], 10, 10, [3], -1, 0⟩, ⟨1, [0], 10, 10, [4], 1, 1⟩, ⟨1, [0], 10, 10, [3], -1, 0⟩], []⟩
theorem ex1 : wayM exF 0 3 = ([1], true) := by decide
theorem ex2 : quickest exF 3 3 = (20, true) := by decide
theorem ex3 : finish exF 0 = (45, true) := by decide
theorem ex4 : wayM exF 4 0 = ([], false) := by decide
theorem ex5 : check exF = (0, []) := by decide
theorem ex6 : follow exF 3 = [1, 4] := by decide
theorem ex7 : reach exF 3 = [1, 3, 4] := by decide
theorem ex8 : ends exF = [4] := by decide
theorem ex9 : check exG = (1, [0]) := by decide
end Go.Proofs.YtnggomfbgmlkhaaGreatDoor

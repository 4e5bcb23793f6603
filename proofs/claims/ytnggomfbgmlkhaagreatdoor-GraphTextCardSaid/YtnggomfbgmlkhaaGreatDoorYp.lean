/- What is printed is read again; the flows that integers determine. -/
import Derived.Test.YtnggomfbgmlkhaaGreatDoorYo
import Derived.Test.YtnggomfbgmlkhaaGreatDoorYn

/- The text of a flow, its size: plain. -/
namespace Go.Proofs.YtnggomfbgmlkhaaGreatDoor
open Go

theorem dec_len : ∀ (k n : Nat), n < 10 ^ (k + 1) → (dec n).length ≤ k + 1
 | 0, n, h => by rw [dec_small (by omega)]; simp
 | k + 1, n, h => by
  by_cases h1 : n < 10
  ·rw [dec_small h1]; simp
  ·rw [dec_big h1, List.length_append]
   have := dec_len k (n / 10) (by rw [Nat.pow_succ] at h; omega)
   simp only [List.length_cons, List.length_nil]; omega
theorem decI_len {n : Int} (h : big n) : (decI n).length ≤ 7 := dec_len 6 n.toNat (by have := h.1; have := h.2; simp; omega)
theorem rangeM_len {a b : Int} (h1 : big a) (h2 : big b) : (rangeM a b).length ≤ 16 := by
 have := decI_len h1; have := decI_len h2
 unfold rangeM; simp only [List.length_append, List.length_cons]; omega
theorem joinC_len' {c : UInt8} {k : Nat} : ∀ {l : List (List UInt8)}, (∀ x ∈ l, x.length ≤ k) → (joinC c l).length ≤ l.length * (k + 1)
 | [], _ => Nat.zero_le _
 | [x], h => by have := h x (by simp); simp only [joinC, List.length_cons, List.length_nil]; omega
 | x :: y :: r, h => by
  have h1 := h x (by simp)
  have h2 := joinC_len' (c := c) (l := y :: r) fun z hz => h z (List.mem_cons_of_mem _ hz)
  rw [show joinC c (x :: y :: r) = x ++ c :: joinC c (y :: r) from rfl, List.length_append, List.length_cons]
  simp only [List.length_cons, Nat.add_mul, Nat.one_mul] at h2 ⊢
  omega
theorem numsM_len {l : List Int} (h : ∀ n ∈ l, big n) : (numsM l).length ≤ l.length * 8 + 1 := by
 unfold numsM
 split
 ·simp
 ·have := joinC_len' (c := 44) (l := l.map decI) (k := 7) fun x hx => by obtain ⟨n, hn, rfl⟩ := List.mem_map.1 hx; exact decI_len (h n hn)
  rw [List.length_map] at this; omega

def tStep : List UInt8 := [115, 116, 101, 112, 32]
def tRecipe : List UInt8 := [32, 114, 101, 99, 105, 112, 101, 32]
def tTools : List UInt8 := [32, 116, 111, 111, 108, 115, 32]
def tTime : List UInt8 := [32, 116, 105, 109, 101, 32]
def tNext : List UInt8 := [32, 110, 101, 120, 116, 32]
def tBack : List UInt8 := [32, 98, 97, 99, 107, 32]
def tLimit : List UInt8 := [32, 108, 105, 109, 105, 116, 32]
def tWindow : List UInt8 := [119, 105, 110, 100, 111, 119, 32]
def tMove : List UInt8 := [109, 111, 118, 101, 32]
def headT (i : Nat) (s : Step) : List UInt8 := tStep ++ dec i ++ tRecipe ++ decI s.recipe ++ tTools ++ numsM s.tools ++ tTime ++ rangeM s.min s.max ++ tNext ++ numsM s.next
def tailT (s : Step) : List UInt8 := if 0 ≤ s.back then tBack ++ decI s.back ++ tLimit ++ decI s.limit else []
theorem stepLine_eq (i : Nat) (s : Step) : stepLine i s = headT i s ++ tailT s := by
 unfold stepLine stepW headT tailT
 by_cases h : 0 ≤ s.back
 ·rw [if_pos h, if_pos h]
  simp [joinC, wStep, wRecipe, wTools, wTime, wNext, wBack, wLimit, tStep, tRecipe, tTools, tTime, tNext, tBack, tLimit]
 ·rw [if_neg h, if_neg h]
  simp [joinC, wStep, wRecipe, wTools, wTime, wNext, tStep, tRecipe, tTools, tTime, tNext]
theorem windowLine_eq (w : Window) : windowLine w = tWindow ++ decI w.src ++ [32] ++ decI w.dst ++ [32] ++ decI w.limit := by
 unfold windowLine windowW
 simp [joinC, wWindow, tWindow]
theorem moveLine_eq (a b : Int) : moveLine a b = tMove ++ rangeM a b := by
 unfold moveLine moveW
 simp [joinC, wMove, tMove]
def stepsT : Nat → List Step → List UInt8
 | _, [] => []
 | k, s :: r => stepLine k s ++ 10 :: stepsT (k + 1) r
def winsT : List Window → List UInt8
 | [] => []
 | w :: r => windowLine w ++ 10 :: winsT r
def printM (f : Flow) : List UInt8 := moveLine f.moveMin f.moveMax ++ 10 :: (stepsT 0 f.steps ++ winsT f.windows)

theorem asc_in {lo hi : Int} : ∀ {l : List Int} {p : Int}, ascGo lo hi p l = true → ∀ n ∈ l, lo ≤ n ∧ n ≤ hi
 | [], _, _, _, hn => by cases hn
 | m :: r, p, h, n, hn => by
  unfold ascGo within at h
  simp only [Bool.and_eq_true, decide_eq_true_eq] at h
  rcases List.mem_cons.1 hn with rfl | hn
  ·exact h.1.1
  ·exact asc_in h.2 n hn
theorem ascending_in {lo hi : Int} {l : List Int} (h : ascending l lo hi = true) : ∀ n ∈ l, lo ≤ n ∧ n ≤ hi := by
 cases l with
 | nil => intro n hn; cases hn
 | cons m r =>
  unfold ascending within at h
  simp only [Bool.and_eq_true, decide_eq_true_eq] at h
  intro n hn
  rcases List.mem_cons.1 hn with rfl | hn
  ·exact h.1
  ·exact asc_in h.2 n hn
/-- What a right step's numbers are. -/
structure StepB (s : Step) : Prop where
 n : StepN s
 tools : s.tools.length ≤ 8
 next : s.next.length ≤ 4
theorem rightStep_N {s : Step} {n : Int} (hn : n ≤ 1000000) (h : rightStep s n = true) : StepB s := by
 unfold rightStep within at h
 simp only [Bool.and_eq_true, Bool.or_eq_true, decide_eq_true_eq, beq_iff_eq] at h
 obtain ⟨⟨⟨⟨⟨⟨⟨h1, h2, h3⟩, h4⟩, h5⟩, h6⟩, h7⟩, h8⟩, h9⟩ := h
 have ht := ascending_in h5
 have hx := ascending_in h6
 refine ⟨⟨⟨by omega, by omega⟩, fun e => ?_, fun n hn => ?_, ⟨by omega, by omega⟩, ⟨by omega, by omega⟩, fun n hn => ?_, ?_⟩, by omega, by omega⟩
 ·rw [e] at h2; simp at h2
 ·have := ht n hn; exact ⟨by omega, by omega⟩
 ·have := hx n hn; exact ⟨by omega, by omega⟩
 ·rcases h1 with h | ⟨h, h'⟩
  ·exact .inl h
  ·exact .inr ⟨⟨by omega, by omega⟩, ⟨by omega, by omega⟩⟩
theorem rightWindow_N {w : Window} {n : Int} (hn : n ≤ 1000000) (h : rightWindow w n = true) : big w.src ∧ big w.dst ∧ big w.limit := by
 unfold rightWindow within at h
 simp only [Bool.and_eq_true, decide_eq_true_eq] at h
 obtain ⟨⟨⟨h1, h2⟩, _⟩, h3⟩ := h
 exact ⟨⟨by omega, by omega⟩, ⟨by omega, by omega⟩, ⟨by omega, by omega⟩⟩
theorem rightMoves_N {f : Flow} (h : rightMoves f = true) : big f.moveMin ∧ big f.moveMax := by
 unfold rightMoves at h
 simp only [Bool.and_eq_true, decide_eq_true_eq] at h
 exact ⟨⟨by omega, by omega⟩, ⟨by omega, by omega⟩⟩
theorem winsOk_all {n : Int} : ∀ {l pre : List Window}, winsOk n pre l = true → ∀ w ∈ l, rightWindow w n = true
 | [], _, _, _, hw => by cases hw
 | v :: r, pre, h, w, hw => by
  unfold winsOk at h
  simp only [Bool.and_eq_true] at h
  rcases List.mem_cons.1 hw with rfl | hw
  ·exact h.1.1
  ·exact winsOk_all h.2 w hw
/-- What a valid flow's numbers are. -/
structure FlowB (f : Flow) : Prop where
 min : big f.moveMin
 max : big f.moveMax
 n1 : 1 ≤ f.steps.length
 n40 : f.steps.length ≤ 40
 steps : ∀ s ∈ f.steps, StepB s
 w20 : f.windows.length ≤ 20
 wins : ∀ w ∈ f.windows, big w.src ∧ big w.dst ∧ big w.limit
theorem valid_N {f : Flow} (h : valid f = true) : FlowB f := by
 unfold valid within at h
 simp only [Bool.and_eq_true, decide_eq_true_eq, List.all_eq_true] at h
 obtain ⟨⟨⟨⟨h1, h2, h3⟩, h4⟩, h5⟩, h6⟩ := h
 exact ⟨(rightMoves_N h1).1, (rightMoves_N h1).2, by omega, by omega, fun s hs => rightStep_N (by omega) (h5 s hs), by omega, fun w hw => rightWindow_N (by omega) (winsOk_all h6 w hw)⟩
theorem headT_len {i : Nat} {s : Step} (hi : i ≤ 1000000) (h : StepB s) : (headT i s).length ≤ 160 := by
 have h1 := dec_len 6 i (by simp; omega)
 have h2 := decI_len h.n.recipe
 have h3 := numsM_len h.n.toolsN
 have h4 := numsM_len h.n.next
 have h5 := rangeM_len h.n.min h.n.max
 have := h.tools; have := h.next
 unfold headT tStep tRecipe tTools tTime tNext
 simp only [List.length_append, List.length_cons, List.length_nil]
 omega
theorem tailT_len {s : Step} (h : StepB s) : (tailT s).length ≤ 27 := by
 unfold tailT
 split
 ·rename_i hb
  rcases h.n.back with ⟨e, _⟩ | ⟨h1, h2⟩
  ·omega
  ·have := decI_len h1; have := decI_len h2
   unfold tBack tLimit
   simp only [List.length_append, List.length_cons, List.length_nil]; omega
 ·simp
theorem windowLine_len {w : Window} (h : big w.src ∧ big w.dst ∧ big w.limit) : (windowLine w).length ≤ 30 := by
 have := decI_len h.1; have := decI_len h.2.1; have := decI_len h.2.2
 rw [windowLine_eq]
 unfold tWindow
 simp only [List.length_append, List.length_cons, List.length_nil]; omega
theorem moveLine_len {a b : Int} (h1 : big a) (h2 : big b) : (moveLine a b).length ≤ 21 := by
 have := rangeM_len h1 h2
 rw [moveLine_eq]
 unfold tMove
 simp only [List.length_append, List.length_cons, List.length_nil]; omega
theorem stepsT_len : ∀ {l : List Step} {k : Nat}, k + l.length ≤ 1000000 → (∀ s ∈ l, StepB s) → (stepsT k l).length ≤ l.length * 188
 | [], _, _, _ => Nat.zero_le _
 | s :: r, k, hk, h => by
  rw [List.length_cons] at hk
  have h1 := headT_len (i := k) (by omega) (h s (by simp))
  have h2 := tailT_len (h s (by simp))
  have h3 := stepsT_len (l := r) (k := k + 1) (by omega) fun s hs => h s (List.mem_cons_of_mem _ hs)
  unfold stepsT
  rw [stepLine_eq]
  simp only [List.length_append, List.length_cons]
  omega
theorem winsT_len : ∀ {l : List Window}, (∀ w ∈ l, big w.src ∧ big w.dst ∧ big w.limit) → (winsT l).length ≤ l.length * 31
 | [], _ => Nat.zero_le _
 | w :: r, h => by
  have h1 := windowLine_len (h w (by simp))
  have h3 := winsT_len (l := r) fun s hs => h s (List.mem_cons_of_mem _ hs)
  unfold winsT
  simp only [List.length_append, List.length_cons]
  omega
theorem printM_len {f : Flow} (h : FlowB f) : (printM f).length ≤ 8192 := by
 have h1 := moveLine_len h.min h.max
 have h2 := stepsT_len (k := 0) (by have := h.n40; omega) h.steps
 have h3 := winsT_len h.wins
 have := h.n40; have := h.w20
 unfold printM
 simp only [List.length_append, List.length_cons]
 omega
end Go.Proofs.YtnggomfbgmlkhaaGreatDoor

/- The flows that integers determine: plain. -/
namespace Go.Proofs.YtnggomfbgmlkhaaGreatDoor
open Go

/-- An integer made an index. -/
def pickM (c n : Int) : Int := (if c < 0 then -(c + 1) else c).tmod n
theorem pickM_range {c n : Int} (hn : 0 < n) : 0 ≤ pickM c n ∧ pickM c n < n := by
 unfold pickM
 have h : 0 ≤ (if c < 0 then -(c + 1) else c) := by split <;> omega
 exact ⟨Int.tmod_nonneg _ h, Int.tmod_lt_of_pos _ hn⟩
theorem tdiv_I64 {c n : Int} (h : I64 c) (hn : 0 < n) : I64 (c.tdiv n) := by
 unfold I64 at h ⊢
 rcases Int.lt_or_le c 0 with h0 | h0
 ·have h1 : 0 ≤ (-c).tdiv n := Int.tdiv_nonneg (by omega) (by omega)
  have h2 : (-c).tdiv n ≤ -c := Int.tdiv_le_self _ (by omega)
  rw [Int.neg_tdiv] at h1 h2
  omega
 ·have h1 : 0 ≤ c.tdiv n := Int.tdiv_nonneg h0 (by omega)
  have h2 : c.tdiv n ≤ c := Int.tdiv_le_self _ h0
  omega
structure Y6 where
 y0 : Int
 y1 : Int
 y2 : Int
 y3 : Int
 y4 : Int
 y5 : Int
structure Y6.fit (y : Y6) : Prop where
 h0 : I64 y.y0
 h1 : I64 y.y1
 h2 : I64 y.y2
 h3 : I64 y.y3
 h4 : I64 y.y4
 h5 : I64 y.y5
structure Y3 where
 z0 : Int
 z1 : Int
 z2 : Int
structure Y3.fit (z : Y3) : Prop where
 h0 : I64 z.z0
 h1 : I64 z.z1
 h2 : I64 z.z2
def y60 : Y6 := ⟨0, 0, 0, 0, 0, 0⟩
def mkTools (y : Y6) : List Int := pickM y.y2 6 :: if pickM (y.y2.tdiv 6) 2 = 0 then [pickM y.y2 6 + 1 + pickM (y.y2.tdiv 12) 3] else []
def mkNext (y : Y6) (n i : Nat) : List Int :=
 if (i : Int) < n - 1 ∧ 0 < pickM y.y3 12 then
  ((i : Int) + 1) :: if (i : Int) + 2 + pickM (y.y3.tdiv 12) 3 < n ∧ pickM (y.y3.tdiv 36) 3 = 0 then [(i : Int) + 2 + pickM (y.y3.tdiv 12) 3] else []
 else []
def mkStep (y : Y6) (n i : Nat) : Step :=
 ⟨1 + pickM y.y0 5, mkTools y, 1 + pickM y.y1 30, 1 + pickM y.y1 30 + pickM (y.y1.tdiv 30) 20, mkNext y n i, if pickM y.y4 4 = 0 then pickM (y.y4.tdiv 4) (i + 1) else -1, if pickM y.y4 4 = 0 then 1 + pickM y.y5 3 else 0⟩
def mkN (x : List Y6) : Nat := max 1 (min x.length 8)
def mkSteps (x : List Y6) (k : Nat) : List Step := (List.range k).map fun i => mkStep (x.getD i y60) (mkN x) i
def mkWin (n : Nat) (z : Y3) : Window := ⟨pickM z.z0 n, pickM z.z1 n, 10 + pickM z.z2 150⟩
def winAdd (n : Nat) (l : List Window) (z : Y3) : List Window := if (mkWin n z).src ≠ (mkWin n z).dst ∧ follows l (mkWin n z) = true then l ++ [mkWin n z] else l
def mkWins (n : Nat) (zs : List Y3) (k : Nat) : List Window := (zs.take k).foldl (winAdd n) []
/-- The flow that Make returns. -/
def mk (x : List Y6) (zs : List Y3) : Flow := ⟨2, 5, mkSteps x (mkN x), mkWins (mkN x) zs (min zs.length 4)⟩

end Go.Proofs.YtnggomfbgmlkhaaGreatDoor

/- What Parse accepts: the lines of a valid flow, and ignored ones. -/
namespace Go.Proofs.YtnggomfbgmlkhaaGreatDoor
open Go Go.K

def stepLs : Nat → List Step → List (List UInt8)
 | _, [] => []
 | k, s :: r => stepLine k s :: stepLs (k + 1) r
def linesOf (f : Flow) : List (List UInt8) := moveLine f.moveMin f.moveMax :: (stepLs 0 f.steps ++ f.windows.map windowLine)
def textOf (ls : List (List UInt8)) : List UInt8 := (ls.map fun l => l ++ [10]).flatten
theorem textOf_cons (l : List UInt8) (ls : List (List UInt8)) : textOf (l :: ls) = l ++ 10 :: textOf ls := by simp [textOf]
theorem textOf_app (ls ms : List (List UInt8)) : textOf (ls ++ ms) = textOf ls ++ textOf ms := by simp [textOf]
theorem textOf_steps : ∀ (l : List Step) (k : Nat), textOf (stepLs k l) = stepsT k l
 | [], _ => rfl
 | s :: l, k => by rw [stepLs, textOf_cons, textOf_steps l (k + 1)]; rfl
theorem textOf_wins : ∀ l : List Window, textOf (l.map windowLine) = winsT l
 | [] => rfl
 | w :: l => by rw [List.map_cons, textOf_cons, textOf_wins l]; rfl
theorem printM_lines (f : Flow) : printM f = textOf (linesOf f) := by
 unfold printM linesOf
 rw [textOf_cons, textOf_app, textOf_steps, textOf_wins]
theorem split_text : ∀ ls : List (List UInt8), (∀ l ∈ ls, (10 : UInt8) ∉ l) → splitC 10 (textOf ls) = ls ++ [[]]
 | [], _ => rfl
 | l :: ls, h => by
  rw [textOf_cons, split_app 10 l _ (h l (List.mem_cons_self ..)), split_text ls fun x hx => h x (List.mem_cons_of_mem _ hx)]
  rfl

/-- The lines, none of them ignored. -/
def acc (first : Bool) (f : Flow) : List (List UInt8) → Option Flow
 | [] => some f
 | l :: r => (headR first f l).bind fun f' => acc false f' r
theorem go_acc : ∀ (ls : List (List UInt8)) (first : Bool) (f : Flow) (i : Nat),
  (∃ f', parseGo first f i ls = .inl f' ∧ acc first f (ls.filter fun l => !skipL l) = some f') ∨
  (∃ j, parseGo first f i ls = .inr j ∧ acc first f (ls.filter fun l => !skipL l) = none)
 | [], first, f, i => .inl ⟨f, rfl, rfl⟩
 | l :: r, first, f, i => by
  rw [parseGo]
  by_cases hs : skipL l = true
  ·rw [if_pos hs, List.filter_cons_of_neg (by simp [hs])]
   exact go_acc r first f (i + 1)
  ·rw [if_neg hs, List.filter_cons_of_pos (by simp [hs]), acc]
   cases headR first f l with
   | none => exact .inr ⟨_, rfl, rfl⟩
   | some f' => exact go_acc r false f' (i + 1)

theorem isPre_app (p r : List UInt8) : p.isPrefixOf (p ++ r) = true := by
 rw [List.isPrefixOf_iff_prefix]; exact List.prefix_append p r
theorem step_pre (i : Nat) (s : Step) : wStep.isPrefixOf (stepLine i s) = true := by
 rw [stepLine_flat, List.append_assoc]; exact isPre_app _ _
theorem window_pre (w : Window) : wStep.isPrefixOf (windowLine w) = false := by
 rw [windowLine_eq]; rfl
theorem acc_sound : ∀ (r : List (List UInt8)) (f f' : Flow), acc false f r = some f' →
  ∃ ss ws, f' = ⟨f.moveMin, f.moveMax, f.steps ++ ss, f.windows ++ ws⟩ ∧ r = stepLs f.steps.length ss ++ ws.map windowLine ∧ (ss ≠ [] → f.windows = [])
 | [], f, f', h => by
  obtain rfl := Option.some.inj h
  exact ⟨[], [], by simp, rfl, fun h => absurd rfl h⟩
 | l :: r, f, f', h => by
  rw [acc] at h
  obtain ⟨f1, h1, h2⟩ := Option.bind_eq_some_iff.1 h
  obtain ⟨ss, ws, rfl, rfl, hw⟩ := acc_sound r f1 f' h2
  have h1 : lineR f l = some f1 := h1
  unfold lineR at h1
  split at h1
  ·obtain ⟨s, hs, rfl⟩ := Option.map_eq_some_iff.1 h1
   unfold stepR at hs
   obtain ⟨s', hs1, hs2⟩ := Option.bind_eq_some_iff.1 hs
   split at hs2
   ·rename_i hc
    obtain rfl := Option.some.inj hs2
    have hl := (stepM_iff.1 hs1).1
    simp only [Bool.and_eq_true, decide_eq_true_eq] at hc
    have hwn : f.windows = [] := List.eq_nil_of_length_eq_zero (by omega)
    refine ⟨s' :: ss, ws, by simp, ?_, fun _ => hwn⟩
    rw [hl, stepLs, List.length_append, List.length_singleton]; rfl
   ·cases hs2
  ·obtain ⟨w, hs, rfl⟩ := Option.map_eq_some_iff.1 h1
   unfold windowR at hs
   obtain ⟨w', hs1, hs2⟩ := Option.bind_eq_some_iff.1 hs
   split at hs2
   ·obtain rfl := Option.some.inj hs2
    have hl := (windowM_iff.1 hs1).1
    have hss : ss = [] := by
     cases ss with
     | nil => rfl
     | cons a b => exact absurd (hw (by simp)) (by simp)
    subst hss
    refine ⟨[], w' :: ws, by simp, ?_, fun h => absurd rfl h⟩
    rw [hl]; rfl
   ·cases hs2
theorem headR_no (f : Flow) (l : List UInt8) : headR false f l = lineR f l := rfl
theorem ascGo_mono {lo hi hi' : Int} (h : hi ≤ hi') : ∀ {l : List Int} {p : Int}, ascGo lo hi p l = true → ascGo lo hi' p l = true
 | [], _, _ => rfl
 | n :: r, p, h1 => by
  simp only [ascGo, within, Bool.and_eq_true, decide_eq_true_eq] at h1 ⊢
  exact ⟨⟨⟨h1.1.1.1, by omega⟩, h1.1.2⟩, ascGo_mono h h1.2⟩
theorem rightStep_mono {s : Step} {n m : Int} (h : n ≤ m) (h1 : rightStep s n = true) : rightStep s m = true := by
 unfold rightStep at h1 ⊢
 simp only [Bool.and_eq_true, Bool.or_eq_true, decide_eq_true_eq, within, beq_iff_eq] at h1 ⊢
 obtain ⟨⟨⟨⟨⟨⟨⟨a, b⟩, c⟩, d⟩, e⟩, f⟩, g⟩, k⟩ := h1
 refine ⟨⟨⟨⟨⟨⟨⟨?_, b⟩, c⟩, d⟩, ?_⟩, f⟩, g⟩, k⟩
 ·rcases a with a | a
  ·exact .inl a
  ·exact .inr (by omega)
 ·cases hn : s.next with
  | nil => rfl
  | cons x r =>
   rw [hn] at e
   simp only [ascending, within, Bool.and_eq_true, decide_eq_true_eq] at e ⊢
   exact ⟨by omega, ascGo_mono (by omega) e.2⟩
theorem rightWindow_mono {w : Window} {n m : Int} (h : n ≤ m) (h1 : rightWindow w n = true) : rightWindow w m = true := by
 unfold rightWindow at h1 ⊢
 simp only [Bool.and_eq_true, within, decide_eq_true_eq] at h1 ⊢
 obtain ⟨⟨⟨a, b⟩, c⟩, d⟩ := h1
 exact ⟨⟨⟨by omega, by omega⟩, c⟩, d⟩
theorem winsOk_mono {n m : Int} (h : n ≤ m) : ∀ {l pre : List Window}, winsOk n pre l = true → winsOk m pre l = true
 | [], _, _ => rfl
 | w :: r, pre, h1 => by
  simp only [winsOk, Bool.and_eq_true] at h1 ⊢
  exact ⟨⟨rightWindow_mono h h1.1.1, h1.1.2⟩, winsOk_mono h h1.2⟩

theorem acc_steps (r : List (List UInt8)) : ∀ (ss : List Step) (f : Flow), f.windows = [] → (∀ s ∈ ss, rightStep s 40 = true) → f.steps.length + ss.length ≤ 40 →
  acc false f (stepLs f.steps.length ss ++ r) = acc false ⟨f.moveMin, f.moveMax, f.steps ++ ss, []⟩ r
 | [], f, hw, _, _ => by
  rw [stepLs, List.nil_append, List.append_nil, ← hw]
 | s :: ss, f, hw, hs, hl => by
  have hs0 := hs s (List.mem_cons_self ..)
  have hN := (rightStep_N (n := 40) (by decide) hs0).n
  rw [List.length_cons] at hl
  have e : headR false f (stepLine f.steps.length s) = some ⟨f.moveMin, f.moveMax, f.steps ++ [s], []⟩ := by
   rw [headR_no]
   unfold lineR
   rw [if_pos (step_pre _ _)]
   unfold stepR
   rw [stepM_iff.2 ⟨rfl, hN⟩]
   show Option.map _ (if _ then _ else _) = _
   rw [if_pos (by rw [hs0, hw]; simp; omega), Option.map_some, hw]
  have := acc_steps r ss ⟨f.moveMin, f.moveMax, f.steps ++ [s], []⟩ rfl (fun x hx => hs x (List.mem_cons_of_mem _ hx)) (by simp; omega)
  rw [stepLs, List.cons_append, acc, e]
  show acc false _ _ = _
  rw [List.length_append, List.length_singleton] at this
  rw [this, List.append_assoc]; rfl
theorem acc_wins : ∀ (ws : List Window) (f : Flow), winsOk 40 f.windows ws = true → f.windows.length + ws.length ≤ 20 → f.steps ≠ [] →
  acc false f (ws.map windowLine) = some ⟨f.moveMin, f.moveMax, f.steps, f.windows ++ ws⟩
 | [], f, _, _, _ => by rw [List.append_nil]; rfl
 | w :: ws, f, hw, hl, hs => by
  rw [winsOk, Bool.and_eq_true, Bool.and_eq_true] at hw
  rw [List.length_cons] at hl
  have hlen : 0 < f.steps.length := List.length_pos_iff.2 hs
  have hN := rightWindow_N (n := 40) (by decide) hw.1.1
  have e : headR false f (windowLine w) = some ⟨f.moveMin, f.moveMax, f.steps, f.windows ++ [w]⟩ := by
   rw [headR_no]
   unfold lineR
   rw [if_neg (by rw [window_pre]; decide)]
   unfold windowR
   rw [windowM_iff.2 ⟨rfl, hN⟩]
   show Option.map _ (if _ then _ else _) = _
   rw [if_pos (by rw [hw.1.1, hw.1.2]; simp; omega)]; rfl
  rw [List.map_cons, acc, e]
  show acc false _ _ = _
  rw [acc_wins ws ⟨f.moveMin, f.moveMax, f.steps, f.windows ++ [w]⟩ hw.2 (by simp; omega) hs, List.append_assoc]; rfl
structure ValidB (f : Flow) : Prop where
 moves : rightMoves f = true
 one : 1 ≤ f.steps.length
 steps : f.steps.length ≤ 40
 wins : f.windows.length ≤ 20
 all : ∀ s ∈ f.steps, rightStep s f.steps.length = true
 ok : winsOk f.steps.length [] f.windows = true
theorem valid_B {f : Flow} : valid f = true ↔ ValidB f := by
 unfold valid
 simp only [Bool.and_eq_true, within, decide_eq_true_eq, List.all_eq_true]
 constructor
 ·rintro ⟨⟨⟨⟨a, b, c⟩, d⟩, e⟩, f⟩
  exact ⟨a, by omega, by omega, by omega, e, f⟩
 ·rintro ⟨a, b, c, d, e, f⟩
  exact ⟨⟨⟨⟨a, by omega, by omega⟩, by omega⟩, e⟩, f⟩
theorem moveR_line {f : Flow} (h : rightMoves f = true) : moveR (moveLine f.moveMin f.moveMax) = some (f.moveMin, f.moveMax) := by
 unfold moveR
 rw [moveM_iff.2 ⟨rfl, rightMoves_N h⟩]
 show (if _ then _ else _) = _
 exact if_pos h
theorem acc_full {f : Flow} (hm : rightMoves f = true) (hs : ∀ s ∈ f.steps, rightStep s 40 = true) (hl : f.steps.length ≤ 40) (hne : f.steps ≠ []) (hw : winsOk 40 [] f.windows = true) (hwl : f.windows.length ≤ 20) : acc true flow0 (linesOf f) = some f := by
 unfold linesOf
 rw [acc]
 show ((moveR _).map _).bind _ = _
 rw [moveR_line hm]
 show acc false ⟨f.moveMin, f.moveMax, [], []⟩ _ = _
 rw [show stepLs 0 f.steps = stepLs (⟨f.moveMin, f.moveMax, [], []⟩ : Flow).steps.length f.steps from rfl]
 rw [acc_steps _ f.steps ⟨f.moveMin, f.moveMax, [], []⟩ rfl hs (by simpa using hl)]
 show acc false ⟨f.moveMin, f.moveMax, f.steps, []⟩ _ = _
 rw [acc_wins f.windows ⟨f.moveMin, f.moveMax, f.steps, []⟩ hw (by simpa using hwl) hne]
 rfl
theorem acc_complete {f : Flow} (h : valid f = true) : acc true flow0 (linesOf f) = some f := by
 have hB := valid_B.1 h
 have := hB.steps
 exact acc_full hB.moves (fun s hs => rightStep_mono (by omega) (hB.all s hs)) hB.steps (fun e => by have := hB.one; rw [e] at this; simp at this) (winsOk_mono (by omega) hB.ok) hB.wins
theorem acc_lines {f : Flow} {ls : List (List UInt8)} (h : acc true flow0 ls = some f) (hv : valid f = true) : ls = linesOf f := by
 cases ls with
 | nil =>
  obtain rfl := Option.some.inj h
  cases hv
 | cons l r =>
  rw [acc] at h
  obtain ⟨f1, h1, h2⟩ := Option.bind_eq_some_iff.1 h
  have h1 : (moveR l).map (fun p => (⟨p.1, p.2, [], []⟩ : Flow)) = some f1 := h1
  obtain ⟨⟨m, n⟩, hm, rfl⟩ := Option.map_eq_some_iff.1 h1
  unfold moveR at hm
  obtain ⟨⟨m', n'⟩, hm1, hm2⟩ := Option.bind_eq_some_iff.1 hm
  split at hm2
  ·obtain ⟨rfl, rfl⟩ := Prod.mk.inj (Option.some.inj hm2)
   obtain ⟨ss, ws, rfl, rfl, _⟩ := acc_sound r _ f h2
   rw [(moveM_iff.1 hm1).1]; rfl
  ·cases hm2
theorem stepLs_mem {x : List UInt8} : ∀ {ss : List Step} {k : Nat}, x ∈ stepLs k ss → ∃ i s, x = stepLine i s
 | s :: ss, k, h => by
  rcases List.mem_cons.1 h with rfl | h
  ·exact ⟨_, _, rfl⟩
  ·exact stepLs_mem h
theorem linesOf_no {f : Flow} : ∀ l ∈ linesOf f, (10 : UInt8) ∉ l := by
 intro l hl
 unfold linesOf at hl
 rcases List.mem_cons.1 hl with rfl | hl
 ·rw [moveLine_eq]
  intro h
  rcases List.mem_append.1 h with h | h
  ·revert h; decide
  ·exact rangeM_no (by decide) (by decide) _ _ h
 ·rcases List.mem_append.1 hl with hl | hl
  ·obtain ⟨i, s, rfl⟩ := stepLs_mem hl
   exact join_no (by decide) (stepW_no (by decide) (by decide) (by decide) (by decide) (by decide) i s)
  ·obtain ⟨w, _, rfl⟩ := List.mem_map.1 hl
   rw [windowLine_eq]
   intro h
   simp only [List.mem_append] at h
   rcases h with ((((h | h) | h) | h) | h) | h
   ·revert h; decide
   ·exact decI_no (by decide) _ h
   ·revert h; decide
   ·exact decI_no (by decide) _ h
   ·revert h; decide
   ·exact decI_no (by decide) _ h
theorem linesOf_skip {f : Flow} : ∀ l ∈ linesOf f, skipL l = false := by
 intro l hl
 unfold linesOf at hl
 rcases List.mem_cons.1 hl with rfl | hl
 ·rw [moveLine_eq]; rfl
 ·rcases List.mem_append.1 hl with hl | hl
  ·obtain ⟨i, s, rfl⟩ := stepLs_mem hl
   rw [stepLine_flat]; rfl
  ·obtain ⟨w, _, rfl⟩ := List.mem_map.1 hl
   rw [windowLine_eq]; rfl
theorem filter_lines (f : Flow) : (linesOf f ++ [[]]).filter (fun l => !skipL l) = linesOf f := by
 rw [List.filter_append, List.filter_eq_self.2 fun l hl => by rw [linesOf_skip l hl]; rfl]
 show _ ++ [] = _
 rw [List.append_nil]
/-- What Parse says of a text. -/
theorem parse_yes {s : List UInt8} {f : Flow} : parseM s = .inl f ↔ valid f = true ∧ (splitC 10 s).filter (fun l => !skipL l) = linesOf f := by
 unfold parseM
 rcases go_acc (splitC 10 s) true flow0 0 with ⟨f', h1, h2⟩ | ⟨j, h1, h2⟩
 ·rw [h1]
  show (if valid f' = true then Sum.inl f' else Sum.inr (splitC 10 s).length) = _ ↔ _
  by_cases hv : valid f' = true
  ·rw [if_pos hv]
   constructor
   ·intro e; obtain rfl := Sum.inl.inj e
    exact ⟨hv, acc_lines h2 hv⟩
   ·rintro ⟨a, b⟩
    rw [b, acc_complete a] at h2
    rw [Option.some.inj h2]
  ·rw [if_neg hv]
   refine ⟨fun e => (by cases e), ?_⟩
   rintro ⟨a, b⟩
   rw [b, acc_complete a] at h2
   exact absurd (Option.some.inj h2 ▸ a) hv
 ·rw [h1]
  refine ⟨fun e => (by cases e), ?_⟩
  rintro ⟨a, b⟩
  rw [b, acc_complete a] at h2
  cases h2
theorem parse_print {f : Flow} (h : valid f = true) : parseM (printM f) = .inl f := by
 refine parse_yes.2 ⟨h, ?_⟩
 rw [printM_lines, split_text _ linesOf_no, filter_lines]
end Go.Proofs.YtnggomfbgmlkhaaGreatDoor

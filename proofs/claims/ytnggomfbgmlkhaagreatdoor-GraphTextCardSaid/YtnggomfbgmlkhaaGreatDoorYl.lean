/- Flows, numbers, lists and lines, in plain Lean. -/
import Derived.Lib.ItoaNum
import Derived.Lib.AtoiAll
import Derived.Lib.SplitLaws
import Derived.Lib.CutLaws

/- Flows and what is said of them, in plain Lean: no program here. -/
namespace Go.Proofs.YtnggomfbgmlkhaaGreatDoor

structure Step where
 recipe : Int
 tools : List Int
 min : Int
 max : Int
 next : List Int
 back : Int
 limit : Int

structure Window where
 src : Int
 dst : Int
 limit : Int

structure Flow where
 moveMin : Int
 moveMax : Int
 steps : List Step
 windows : List Window

def within (n lo hi : Int) : Bool := decide (lo ≤ n) && decide (n ≤ hi)

def ascGo (lo hi : Int) : Int → List Int → Bool
 | _, [] => true
 | p, n :: r => within n lo hi && decide (p < n) && ascGo lo hi n r
def ascending (l : List Int) (lo hi : Int) : Bool :=
 match l with
 | [] => true
 | n :: r => within n lo hi && ascGo lo hi n r

def rightStep (s : Step) (n : Int) : Bool :=
 ((s.back == -1 && s.limit == 0) || (within s.back 0 (n - 1) && within s.limit 1 9)) && (within s.tools.length 1 8 && decide ((s.next.length : Int) ≤ 4)) &&
 within s.recipe 1 1000000 && ascending s.tools 0 59 && ascending s.next 0 (n - 1) && decide (1 ≤ s.min) && decide (s.min ≤ s.max) && decide (s.max ≤ 10000)

def rightWindow (w : Window) (n : Int) : Bool :=
 within w.src 0 (n - 1) && within w.dst 0 (n - 1) && (w.src != w.dst) && within w.limit 0 1000000

def winLess (v w : Window) : Bool := decide (v.src < w.src) || (v.src == w.src && decide (v.dst < w.dst))
def follows (l : List Window) (w : Window) : Bool :=
 match l.getLast? with
 | none => true
 | some v => winLess v w

def rightMoves (f : Flow) : Bool := decide (0 ≤ f.moveMin) && decide (f.moveMin ≤ f.moveMax) && decide (f.moveMax ≤ 10000)

def winsOk (n : Int) : List Window → List Window → Bool
 | _, [] => true
 | pre, w :: r => rightWindow w n && follows pre w && winsOk n (pre ++ [w]) r

def valid (f : Flow) : Bool :=
 rightMoves f && within f.steps.length 1 40 && decide ((f.windows.length : Int) ≤ 20) && f.steps.all (fun s => rightStep s f.steps.length) && winsOk f.steps.length [] f.windows

end Go.Proofs.YtnggomfbgmlkhaaGreatDoor

/- Numbers in decimal digits, written and read: in plain Lean. -/
namespace Go.Proofs.YtnggomfbgmlkhaaGreatDoor
open Go

def dec (n : Nat) : List UInt8 := Lib.decDigits n
def isDig (b : UInt8) : Bool := decide (48 ≤ b.toNat) && decide (b.toNat ≤ 57)
def valGo (acc : Nat) (l : List UInt8) : Nat := l.foldl (fun a b => 10 * a + (b.toNat - 48)) acc
def val (l : List UInt8) : Nat := valGo 0 l
theorem dec_small {n : Nat} (h : n < 10) : dec n = [UInt8.ofNat (48 + n)] := by unfold dec; rw [Lib.decDigits, dif_pos h]
theorem dec_big {n : Nat} (h : ¬ n < 10) : dec n = dec (n / 10) ++ [UInt8.ofNat (48 + n % 10)] := by unfold dec; rw [Lib.decDigits, dif_neg h]
theorem valGo_app (acc : Nat) (l m : List UInt8) : valGo acc (l ++ m) = valGo (valGo acc l) m := by unfold valGo; rw [List.foldl_append]
theorem digNat {k : Nat} (h : k < 10) : (UInt8.ofNat (48 + k)).toNat = 48 + k := by rw [UInt8.toNat_ofNat']; omega
theorem isDig_of {k : Nat} (h : k < 10) : isDig (UInt8.ofNat (48 + k)) = true := by unfold isDig; rw [digNat h]; simp; omega
theorem val_dec (n : Nat) : val (dec n) = n := by
 induction n using Nat.strongRecOn with
 | _ n ih =>
  by_cases h : n < 10
  ·rw [dec_small h]; unfold val valGo; simp only [List.foldl_cons, List.foldl_nil]; rw [digNat h]; omega
  ·rw [dec_big h]
   unfold val
   rw [valGo_app, show valGo 0 (dec (n / 10)) = n / 10 from ih (n / 10) (by omega)]
   unfold valGo
   simp only [List.foldl_cons, List.foldl_nil]
   rw [digNat (by omega)]; omega
theorem dec_dig (n : Nat) : ∀ b ∈ dec n, isDig b = true := by
 induction n using Nat.strongRecOn with
 | _ n ih =>
  by_cases h : n < 10
  ·rw [dec_small h]; intro b hb; obtain rfl := List.mem_singleton.1 hb; exact isDig_of h
  ·rw [dec_big h]
   intro b hb
   rcases List.mem_append.1 hb with hb | hb
   ·exact ih (n / 10) (by omega) b hb
   ·obtain rfl := List.mem_singleton.1 hb; exact isDig_of (by omega)
theorem dec_ne (n : Nat) : dec n ≠ [] := by
 by_cases h : n < 10
 ·rw [dec_small h]; simp
 ·rw [dec_big h]; simp
theorem dec_pos {n : Nat} (h : 0 < n) : ∀ r, dec n ≠ 48 :: r := by
 induction n using Nat.strongRecOn with
 | _ n ih =>
  intro r
  by_cases hs : n < 10
  ·rw [dec_small hs]
   intro e
   have := congrArg (fun l : List UInt8 => (l.headD 0).toNat) e
   simp only [List.headD_cons] at this
   rw [digNat hs] at this
   have h48 : (48 : UInt8).toNat = 48 := rfl
   omega
  ·rw [dec_big hs]
   intro e
   cases hd : dec (n / 10) with
   | nil => exact dec_ne _ hd
   | cons x t =>
    rw [hd, List.cons_append] at e
    obtain ⟨e1, _⟩ := List.cons.inj e
    exact ih (n / 10) (by omega) (by omega) t (by rw [hd, e1])
/-- Digits that begin with no zero, or one digit: they are written so. -/
def canon (l : List UInt8) : Bool := l.all isDig && (match l with | [] => false | [_] => true | b :: _ => b != 48)
theorem dec_canon (n : Nat) : canon (dec n) = true := by
 unfold canon
 rw [Bool.and_eq_true]
 refine ⟨List.all_eq_true.2 (dec_dig n), ?_⟩
 cases hd : dec n with
 | nil => exact absurd hd (dec_ne n)
 | cons b t =>
  cases t with
  | nil => rfl
  | cons c t =>
   have hn : 0 < n := by
    refine Nat.pos_of_ne_zero fun h0 => ?_
    subst h0
    rw [dec_small (by decide)] at hd
    simp at hd
   have := dec_pos hn
   simp only [bne_iff_ne, ne_eq]
   intro e
   subst e
   exact this _ hd
theorem dec_snoc {n : Nat} (h : 0 < n) {b : UInt8} (hb : isDig b = true) : dec (10 * n + (b.toNat - 48)) = dec n ++ [b] := by
 unfold isDig at hb
 simp only [Bool.and_eq_true, decide_eq_true_eq] at hb
 rw [dec_big (by omega), show (10 * n + (b.toNat - 48)) / 10 = n from by omega, show (10 * n + (b.toNat - 48)) % 10 = b.toNat - 48 from by omega, show 48 + (b.toNat - 48) = b.toNat from by omega, UInt8.ofNat_toNat]
theorem dec_valGo (l : List UInt8) : ∀ n, 0 < n → l.all isDig = true → dec (valGo n l) = dec n ++ l := by
 induction l with
 | nil => intro n _ _; simp [valGo]
 | cons b t ih =>
  intro n hn hl
  rw [List.all_cons, Bool.and_eq_true] at hl
  show dec (valGo (10 * n + (b.toNat - 48)) t) = _
  have hb := hl.1
  unfold isDig at hb
  simp only [Bool.and_eq_true, decide_eq_true_eq] at hb
  rw [ih _ (by omega) hl.2, dec_snoc hn hl.1, List.append_assoc]; rfl
theorem dec_val {l : List UInt8} (h : canon l = true) : dec (val l) = l := by
 unfold canon at h
 rw [Bool.and_eq_true] at h
 obtain ⟨h1, h2⟩ := h
 cases l with
 | nil => simp at h2
 | cons b t =>
  rw [List.all_cons, Bool.and_eq_true] at h1
  have hb := h1.1
  unfold isDig at hb
  simp only [Bool.and_eq_true, decide_eq_true_eq] at hb
  have e0 : val (b :: t) = valGo (b.toNat - 48) t := by unfold val valGo; simp
  have hone : dec (b.toNat - 48) = [b] := by
   rw [dec_small (by omega), show 48 + (b.toNat - 48) = b.toNat from by omega, UInt8.ofNat_toNat]
  cases t with
  | nil => rw [e0]; exact hone
  | cons c t =>
   have hne : b ≠ 48 := by simpa using h2
   have hpos : 0 < b.toNat - 48 := by
    have : b.toNat ≠ 48 := fun e => hne (UInt8.toNat_inj.1 e)
    omega
   rw [e0, dec_valGo _ _ hpos h1.2, hone]; rfl
/-- Reading a number of at most 1000000: it must be written as it is written. -/
def numM (l : List UInt8) : Option Nat := if canon l = true ∧ val l ≤ 1000000 then some (val l) else none
theorem numM_iff {l : List UInt8} {n : Nat} : numM l = some n ↔ l = dec n ∧ n ≤ 1000000 := by
 unfold numM
 constructor
 ·intro h
  split at h
  ·rename_i hc
   obtain rfl := Option.some.inj h
   exact ⟨(dec_val hc.1).symm, hc.2⟩
  ·cases h
 ·rintro ⟨rfl, hn⟩
  rw [val_dec, if_pos ⟨dec_canon n, hn⟩]
theorem numM_dec {n : Nat} (h : n ≤ 1000000) : numM (dec n) = some n := numM_iff.2 ⟨rfl, h⟩

/-! ### What the library reads -/
theorem parse_valGo : ∀ (l : List UInt8) (acc : Nat), l.all isDig = true → valGo acc l ≤ 1000000000 → Lib.parseUint10 acc l = .ok (valGo acc l)
 | [], acc, _, _ => rfl
 | b :: t, acc, h, hv => by
  rw [List.all_cons, Bool.and_eq_true] at h
  have hb := h.1
  unfold isDig at hb
  simp only [Bool.and_eq_true, decide_eq_true_eq] at hb
  have hge : ∀ (t : List UInt8) (a : Nat), a ≤ valGo a t := by
   intro t
   induction t with
   | nil => intro a; exact Nat.le_refl _
   | cons c t ih => intro a; exact Nat.le_trans (by omega) (ih (10 * a + (c.toNat - 48)))
  have hv' : valGo (10 * acc + (b.toNat - 48)) t ≤ 1000000000 := hv
  have h1 := hge t (10 * acc + (b.toNat - 48))
  unfold Lib.parseUint10
  rw [if_pos hb, if_neg (by omega), if_neg (by omega), show acc * 10 + (b.toNat - 48) = 10 * acc + (b.toNat - 48) from by omega]
  exact parse_valGo t _ h.2 hv'
theorem atoi_dec {n : Nat} (h : n ≤ 1000000) : Lib.atoiAll (dec n) = .ok (n : Int) := by
 have hd := dec_dig n
 have hv := val_dec n
 have hp := parse_valGo (dec n) 0 (List.all_eq_true.2 hd) (by show val (dec n) ≤ _; rw [hv]; omega)
 rw [show valGo 0 (dec n) = n from hv] at hp
 cases hl : dec n with
 | nil => exact absurd hl (dec_ne n)
 | cons c r =>
  have hc := hd c (by rw [hl]; simp)
  unfold isDig at hc
  simp only [Bool.and_eq_true, decide_eq_true_eq] at hc
  unfold Lib.atoiAll
  simp only
  rw [if_neg (by omega)]
  unfold Lib.parseMag
  rw [if_neg (by simp), ← hl, hp]
  simp only
  rw [if_neg (by omega), if_neg (by omega), if_neg (by omega)]
theorem itoa_dec (n : Nat) : Lib.itoa (n : Int) = dec n := by unfold Lib.itoa dec; rw [if_neg (by omega), Int.toNat_natCast]
/-- What the program asks of a number, and what that comes to. -/
theorem num_some {l : List UInt8} {v : Int} (h : Lib.atoiAll l = .ok v) (h0 : 0 ≤ v) (h1 : v ≤ 1000000) (h2 : Lib.itoa v = l) : numM l = some v.toNat := by
 obtain ⟨n, rfl⟩ : ∃ n : Nat, v = n := ⟨v.toNat, by omega⟩
 rw [itoa_dec] at h2
 rw [← h2, Int.toNat_natCast]
 exact numM_dec (by omega)
theorem num_ok {l : List UInt8} {n : Nat} (h : numM l = some n) : Lib.atoiAll l = .ok (n : Int) ∧ Lib.itoa (n : Int) = l ∧ n ≤ 1000000 := by
 obtain ⟨rfl, hn⟩ := numM_iff.1 h
 exact ⟨atoi_dec hn, itoa_dec n, hn⟩
end Go.Proofs.YtnggomfbgmlkhaaGreatDoor

/- Pieces between separators, numbers in lists and ranges: in plain Lean. -/
namespace Go.Proofs.YtnggomfbgmlkhaaGreatDoor
open Go

def splitC (c : UInt8) : List UInt8 → List (List UInt8)
 | [] => [[]]
 | b :: t => if b = c then [] :: splitC c t else
  match splitC c t with
  | [] => [[b]]
  | x :: r => (b :: x) :: r
def joinC (c : UInt8) : List (List UInt8) → List UInt8
 | [] => []
 | [x] => x
 | x :: y :: r => x ++ c :: joinC c (y :: r)
theorem splitC_ne (c : UInt8) (l : List UInt8) : splitC c l ≠ [] := by
 cases l with
 | nil => simp [splitC]
 | cons b t =>
  unfold splitC
  split
  ·simp
  ·split <;> simp
theorem joinC_cons (c : UInt8) (b : UInt8) (x : List UInt8) (r : List (List UInt8)) : joinC c ((b :: x) :: r) = b :: joinC c (x :: r) := by
 cases r <;> rfl
theorem joinC_nil_cons (c : UInt8) {ps : List (List UInt8)} (h : ps ≠ []) : joinC c ([] :: ps) = c :: joinC c ps := by
 cases ps with
 | nil => exact absurd rfl h
 | cons x r => rfl
theorem join_split (c : UInt8) (l : List UInt8) : joinC c (splitC c l) = l := by
 induction l with
 | nil => rfl
 | cons b t ih =>
  unfold splitC
  split
  ·rename_i h
   rw [joinC_nil_cons c (splitC_ne c t), ih, h]
  ·split
   ·rename_i h; exact absurd h (splitC_ne c t)
   ·rename_i x r h
    rw [joinC_cons, ← h, ih]
theorem split_no (c : UInt8) (l : List UInt8) : ∀ p ∈ splitC c l, c ∉ p := by
 induction l with
 | nil => intro p hp; simp [splitC] at hp; subst hp; simp
 | cons b t ih =>
  intro p hp
  unfold splitC at hp
  split at hp
  ·rcases List.mem_cons.1 hp with rfl | hp
   ·simp
   ·exact ih p hp
  ·rename_i hb
   split at hp
   ·rename_i h; exact absurd h (splitC_ne c t)
   ·rename_i x r h
    rcases List.mem_cons.1 hp with rfl | hp
    ·intro hc
     rcases List.mem_cons.1 hc with hc | hc
     ·exact hb hc.symm
     ·exact ih x (by rw [h]; simp) hc
    ·exact ih p (by rw [h]; simp [hp])
theorem split_piece (c : UInt8) : ∀ x : List UInt8, c ∉ x → splitC c x = [x]
 | [], _ => rfl
 | b :: t, h => by
  rw [List.mem_cons, not_or] at h
  unfold splitC
  rw [if_neg (fun e => h.1 e.symm), split_piece c t h.2]
theorem split_app (c : UInt8) : ∀ (x r : List UInt8), c ∉ x → splitC c (x ++ c :: r) = x :: splitC c r
 | [], r, _ => by show splitC c (c :: r) = _; rw [splitC, if_pos rfl]
 | b :: t, r, h => by
  rw [List.mem_cons, not_or] at h
  show splitC c (b :: (t ++ c :: r)) = _
  rw [splitC, if_neg (fun e => h.1 e.symm), split_app c t r h.2]
theorem split_join (c : UInt8) : ∀ ps : List (List UInt8), ps ≠ [] → (∀ p ∈ ps, c ∉ p) → splitC c (joinC c ps) = ps
 | [], h, _ => absurd rfl h
 | [x], _, h => split_piece c x (h x (by simp))
 | x :: y :: r, _, h => by
  show splitC c (x ++ c :: joinC c (y :: r)) = _
  rw [split_app c x _ (h x (by simp)), split_join c (y :: r) (by simp) fun p hp => h p (by simp [hp])]
/-- Pieces are the only way to cut at a separator. -/
theorem split_iff (c : UInt8) {l : List UInt8} {ps : List (List UInt8)} : splitC c l = ps ↔ l = joinC c ps ∧ ps ≠ [] ∧ ∀ p ∈ ps, c ∉ p := by
 constructor
 ·rintro rfl
  exact ⟨(join_split c l).symm, splitC_ne c l, split_no c l⟩
 ·rintro ⟨rfl, h1, h2⟩
  exact split_join c ps h1 h2

/-- What the library's Split yields. -/
theorem index_one (c b : UInt8) (l : List UInt8) : Lib.index (b :: l) [c] = if c = b then 0 else if Lib.index l [c] = -1 then -1 else Lib.index l [c] + 1 := by
 by_cases h : c = b
 ·subst h; rw [Lib.index]; simp [List.isPrefixOf]
 ·have hp : ([c] : List UInt8).isPrefixOf (b :: l) = false := by simp [List.isPrefixOf, h]
  rw [Lib.index, hp, if_neg h]
  by_cases h2 : Lib.index l [c] = -1
  ·simp [h2]
  ·simp [h2]
theorem split_lib (c : UInt8) : ∀ s : List UInt8, Lib.splitK [c] 0 (s.count c) s = splitC c s
 | [] => rfl
 | b :: l => by
  have ih := split_lib c l
  by_cases h : b = c
  ·subst h
   rw [List.count_cons_self, Lib.splitK, splitC, if_pos rfl]
   have h0 : Lib.index (b :: l) [b] = 0 := by rw [index_one, if_pos rfl]
   rw [if_neg (by rw [h0]; decide), h0]
   exact congrArg _ ih
  ·rw [List.count_cons_of_ne (by simpa using h), splitC, if_neg h, ← ih]
   cases hk : l.count c with
   | zero => rfl
   | succ k =>
    have hne : Lib.index l [c] ≠ -1 := by
     intro e
     have h1 := Lib.count_miss e
     rw [Lib.count_one, hk] at h1
     omega
    have hge := Lib.index_ge l [c]
    obtain ⟨j, hj⟩ : ∃ j : Nat, Lib.index l [c] = j := ⟨(Lib.index l [c]).toNat, by omega⟩
    have hb : Lib.index (b :: l) [c] = ((j + 1 : Nat) : Int) := by
     rw [index_one, if_neg (fun e => h e.symm), if_neg hne, hj]; omega
    unfold Lib.splitK
    rw [hb, hj, if_neg (by simp; omega), if_neg (by simp)]
    simp
theorem split_count (c : UInt8) (s : List UInt8) : Lib.split s [c] = splitC c s := by
 unfold Lib.split
 rw [Lib.count_one]; exact split_lib c s

/-! ### Lists and ranges of numbers -/
def allSome {α : Type} : List (Option α) → Option (List α)
 | [] => some []
 | none :: _ => none
 | some x :: r => (allSome r).map fun l => x :: l
theorem allSome_iff {α : Type} : ∀ {l : List (Option α)} {xs : List α}, allSome l = some xs ↔ l = xs.map some
 | [], xs => by cases xs <;> simp [allSome]
 | none :: r, xs => by cases xs <;> simp [allSome]
 | some x :: r, xs => by
  have ih := fun ys : List α => allSome_iff (l := r) (xs := ys)
  unfold allSome
  cases xs with
  | nil => simp
  | cons y ys =>
   rw [Option.map_eq_some_iff]
   constructor
   ·rintro ⟨a, h1, h2⟩
    obtain ⟨rfl, rfl⟩ := List.cons.inj h2
    rw [(ih a).1 h1]; rfl
   ·intro h
    simp only [List.map_cons, List.cons.injEq, Option.some.injEq] at h
    exact ⟨ys, (ih ys).2 h.2, by rw [h.1]⟩
def listM (s : List UInt8) : Option (List Nat) := allSome ((splitC 44 s).map numM)
theorem dec_no {c : UInt8} (h : isDig c = false) (n : Nat) : c ∉ dec n := fun hc => by rw [dec_dig n c hc] at h; cases h
theorem listM_iff {s : List UInt8} {l : List Nat} : listM s = some l ↔ s = joinC 44 (l.map dec) ∧ l ≠ [] ∧ ∀ n ∈ l, n ≤ 1000000 := by
 unfold listM
 rw [allSome_iff]
 constructor
 ·intro h
  have hall : ∀ (ps : List (List UInt8)) (l : List Nat), ps.map numM = l.map some → ps = l.map dec ∧ ∀ n ∈ l, n ≤ 1000000 := by
   intro ps
   induction ps with
   | nil => intro l h; cases l <;> simp at h; exact ⟨rfl, by simp⟩
   | cons p ps ih =>
    intro l h
    cases l with
    | nil => simp at h
    | cons n l =>
     rw [List.map_cons, List.map_cons] at h
     obtain ⟨h1, h2⟩ := List.cons.inj h
     obtain ⟨e1, e2⟩ := numM_iff.1 h1
     obtain ⟨e3, e4⟩ := ih l h2
     exact ⟨by rw [e1, e3]; rfl, fun m hm => by rcases List.mem_cons.1 hm with rfl | hm; exact e2; exact e4 m hm⟩
  obtain ⟨h1, h2⟩ := hall _ _ h
  obtain ⟨h3, h4, _⟩ := (split_iff 44).1 h1
  exact ⟨h3, fun e => by subst e; exact h4 rfl, h2⟩
 ·rintro ⟨h1, h2, h3⟩
  have : splitC 44 s = l.map dec := (split_iff 44).2 ⟨h1, by simpa using h2, fun p hp => by
   obtain ⟨n, _, rfl⟩ := List.mem_map.1 hp
   exact dec_no rfl n⟩
  rw [this, List.map_map]
  exact List.map_congr_left fun n hn => numM_dec (h3 n hn)

def spanM (s : List UInt8) : Option (Nat × Nat) :=
 if Lib.index s [46, 46] < 0 then none
 else match numM (s.take (Lib.index s [46, 46]).toNat), numM (s.drop ((Lib.index s [46, 46]).toNat + 2)) with
  | some a, some b => some (a, b)
  | _, _ => none
theorem dots_index (a : Nat) (r : List UInt8) : Lib.index (dec a ++ 46 :: 46 :: r) [46, 46] = ((dec a).length : Int) := by
 refine Lib.index_first (by simp) ?_ fun j hj => ?_
 ·unfold Lib.occAt
  rw [List.drop_left]; simp [List.isPrefixOf]
 ·unfold Lib.occAt
  rw [List.drop_append_of_le_length (by omega), List.drop_eq_getElem_cons hj, List.cons_append]
  have hd := dec_dig a _ (List.getElem_mem hj)
  have hne : ((46 : UInt8) == (dec a)[j]) = false := by
   rw [beq_eq_false_iff_ne]
   intro e
   rw [← e] at hd
   cases hd
  simp [List.isPrefixOf, hne]
theorem spanM_iff {s : List UInt8} {a b : Nat} : spanM s = some (a, b) ↔ s = dec a ++ 46 :: 46 :: dec b ∧ a ≤ 1000000 ∧ b ≤ 1000000 := by
 unfold spanM
 constructor
 ·intro h
  split at h
  ·cases h
  ·rename_i h0
   rcases Lib.index_spec s [46, 46] with ⟨h1, _⟩ | ⟨i, h1, h2, h3, _⟩
   ·omega
   ·rw [h1] at h
    simp only [Int.toNat_natCast] at h
    split at h
    ·rename_i x y h4 h5
     simp only [Option.some.injEq, Prod.mk.injEq] at h
     obtain ⟨rfl, rfl⟩ := h
     obtain ⟨e1, l1⟩ := numM_iff.1 h4
     obtain ⟨e2, l2⟩ := numM_iff.1 h5
     refine ⟨?_, l1, l2⟩
     unfold Lib.occAt at h3
     have h6 : s.drop i = 46 :: 46 :: s.drop (i + 2) := by
      rw [← List.drop_drop]
      cases hd : s.drop i with
      | nil => rw [hd] at h3; cases h3
      | cons p t =>
       cases t with
       | nil => rw [hd] at h3; simp [List.isPrefixOf] at h3
       | cons q t =>
        rw [hd] at h3
        simp only [List.isPrefixOf, Bool.and_eq_true, beq_iff_eq, and_true] at h3
        obtain ⟨rfl, rfl⟩ := h3
        rfl
     rw [← e1, ← e2, ← h6, List.take_append_drop]
    ·cases h
 ·rintro ⟨rfl, h1, h2⟩
  rw [dots_index, if_neg (by omega), Int.toNat_natCast, List.take_left]
  have h3 : (dec a ++ 46 :: 46 :: dec b).drop ((dec a).length + 2) = dec b := by
   rw [← List.drop_drop, List.drop_left]; rfl
  rw [h3, numM_dec h1, numM_dec h2]
end Go.Proofs.YtnggomfbgmlkhaaGreatDoor

/- The lines of a flow's text, written and read: in plain Lean. -/
namespace Go.Proofs.YtnggomfbgmlkhaaGreatDoor
open Go

def wStep : List UInt8 := [115, 116, 101, 112]
def wRecipe : List UInt8 := [114, 101, 99, 105, 112, 101]
def wTools : List UInt8 := [116, 111, 111, 108, 115]
def wTime : List UInt8 := [116, 105, 109, 101]
def wNext : List UInt8 := [110, 101, 120, 116]
def wBack : List UInt8 := [98, 97, 99, 107]
def wLimit : List UInt8 := [108, 105, 109, 105, 116]
def wWindow : List UInt8 := [119, 105, 110, 100, 111, 119]
def wMove : List UInt8 := [109, 111, 118, 101]
def big (n : Int) : Prop := 0 ≤ n ∧ n ≤ 1000000

def decI (n : Int) : List UInt8 := dec n.toNat
def numsM (l : List Int) : List UInt8 := if l = [] then [45] else joinC 44 (l.map decI)
def rangeM (a b : Int) : List UInt8 := decI a ++ 46 :: 46 :: decI b
def stepW (i : Nat) (s : Step) : List (List UInt8) :=
 [wStep, dec i, wRecipe, decI s.recipe, wTools, numsM s.tools, wTime, rangeM s.min s.max, wNext, numsM s.next] ++ if 0 ≤ s.back then [wBack, decI s.back, wLimit, decI s.limit] else []
def windowW (w : Window) : List (List UInt8) := [wWindow, decI w.src, decI w.dst, decI w.limit]
def moveW (a b : Int) : List (List UInt8) := [wMove, rangeM a b]
def stepLine (i : Nat) (s : Step) : List UInt8 := joinC 32 (stepW i s)
def windowLine (w : Window) : List UInt8 := joinC 32 (windowW w)
def moveLine (a b : Int) : List UInt8 := joinC 32 (moveW a b)

def ints (l : List Nat) : List Int := l.map fun n : Nat => (n : Int)
def nextM (w : List UInt8) : Option (List Nat) := if w = [45] then some [] else listM w
def bodyM (a3 a5 a7 a9 : List UInt8) (bk : Option (Int × Int)) : Option Step :=
 match numM a3, listM a5, spanM a7, nextM a9, bk with
 | some r, some t, some mm, some nx, some bl => some ⟨r, ints t, mm.1, mm.2, ints nx, bl.1, bl.2⟩
 | _, _, _, _, _ => none
def backM (x y : List UInt8) : Option (Int × Int) :=
 match numM x, numM y with
 | some a, some b => some (a, b)
 | _, _ => none
def fixedM (i : Nat) (a0 a1 a2 a4 a6 a8 : List UInt8) : Bool := a0 == wStep && a1 == dec i && a2 == wRecipe && a4 == wTools && a6 == wTime && a8 == wNext
def stepM (i : Nat) (line : List UInt8) : Option Step :=
 match splitC 32 line with
 | [a0, a1, a2, a3, a4, a5, a6, a7, a8, a9] => if fixedM i a0 a1 a2 a4 a6 a8 = true then bodyM a3 a5 a7 a9 (some (-1, 0)) else none
 | [a0, a1, a2, a3, a4, a5, a6, a7, a8, a9, b0, b1, b2, b3] => if fixedM i a0 a1 a2 a4 a6 a8 = true ∧ b0 = wBack ∧ b2 = wLimit then bodyM a3 a5 a7 a9 (backM b1 b3) else none
 | _ => none
def windowM (line : List UInt8) : Option Window :=
 match splitC 32 line with
 | [a0, a1, a2, a3] => if a0 = wWindow then
   match numM a1, numM a2, numM a3 with
   | some x, some y, some z => some ⟨x, y, z⟩
   | _, _, _ => none
  else none
 | _ => none
def moveM (line : List UInt8) : Option (Int × Int) :=
 match splitC 32 line with
 | [a0, a1] => if a0 = wMove then (spanM a1).map fun p => ((p.1 : Int), (p.2 : Int)) else none
 | _ => none

/-- A step that can be written. -/
structure StepN (s : Step) : Prop where
 recipe : big s.recipe
 tools : s.tools ≠ []
 toolsN : ∀ n ∈ s.tools, big n
 min : big s.min
 max : big s.max
 next : ∀ n ∈ s.next, big n
 back : (s.back = -1 ∧ s.limit = 0) ∨ (big s.back ∧ big s.limit)
theorem ints_dec (l : List Nat) : (ints l).map decI = l.map dec := by
 unfold ints; rw [List.map_map]; rfl
theorem ints_big {l : List Nat} (h : ∀ n ∈ l, n ≤ 1000000) : ∀ n ∈ ints l, big n := by
 intro n hn
 obtain ⟨m, hm, rfl⟩ := List.mem_map.1 hn
 have := h m hm
 exact ⟨by omega, by omega⟩
theorem ints_ne {l : List Nat} : ints l = [] ↔ l = [] := by unfold ints; exact List.map_eq_nil_iff
theorem ints_of {l : List Int} (h : ∀ n ∈ l, big n) : ints (l.map Int.toNat) = l := by
 unfold ints
 rw [List.map_map]
 conv => rhs; rw [← List.map_id l]
 exact List.map_congr_left fun n hn => by have := (h n hn).1; show ((n.toNat : Nat) : Int) = n; omega
theorem numsM_ne {l : List Nat} (h : l ≠ []) : numsM (ints l) = joinC 44 (l.map dec) := by
 unfold numsM
 rw [if_neg (fun e => h (ints_ne.1 e)), ints_dec]
theorem join_head {c : UInt8} {x : List UInt8} {r : List (List UInt8)} (h : x ≠ []) : (joinC c (x :: r)).head? = x.head? := by
 cases x with
 | nil => exact absurd rfl h
 | cons b t => cases r <;> rfl
theorem nums_not (l : List Nat) (h : l ≠ []) : joinC 44 (l.map dec) ≠ [45] := by
 cases l with
 | nil => exact absurd rfl h
 | cons n l =>
  intro e
  have := join_head (c := 44) (r := l.map dec) (dec_ne n)
  rw [List.map_cons] at e
  rw [e] at this
  cases hd : dec n with
  | nil => exact dec_ne n hd
  | cons b t =>
   rw [hd] at this
   simp only [List.head?_cons, Option.some.injEq] at this
   have hb := dec_dig n b (by rw [hd]; simp)
   rw [← this] at hb
   cases hb
theorem nextM_iff {w : List UInt8} {l : List Nat} : nextM w = some l ↔ w = numsM (ints l) ∧ ∀ n ∈ l, n ≤ 1000000 := by
 unfold nextM
 by_cases hw : w = [45]
 ·rw [if_pos hw]
  constructor
  ·intro h
   obtain rfl := Option.some.inj h
   exact ⟨by rw [hw]; rfl, by simp⟩
  ·rintro ⟨h, _⟩
   cases l with
   | nil => rfl
   | cons n l =>
    rw [numsM_ne (by simp), hw] at h
    exact absurd h.symm (nums_not (n :: l) (by simp))
 ·rw [if_neg hw, listM_iff]
  constructor
  ·rintro ⟨h1, h2, h3⟩
   exact ⟨by rw [numsM_ne h2]; exact h1, h3⟩
  ·rintro ⟨h1, h3⟩
   have hl : l ≠ [] := fun e => by subst e; exact hw (by rw [h1]; rfl)
   exact ⟨by rw [← numsM_ne hl]; exact h1, hl, h3⟩
theorem bodyM_iff {a3 a5 a7 a9 : List UInt8} {bk : Option (Int × Int)} {s : Step} : bodyM a3 a5 a7 a9 bk = some s ↔
  a3 = decI s.recipe ∧ a5 = numsM s.tools ∧ a7 = rangeM s.min s.max ∧ a9 = numsM s.next ∧ bk = some (s.back, s.limit) ∧ big s.recipe ∧ s.tools ≠ [] ∧ (∀ n ∈ s.tools, big n) ∧ big s.min ∧ big s.max ∧ ∀ n ∈ s.next, big n := by
 unfold bodyM
 constructor
 ·intro h
  split at h
  ·rename_i r t mm nx bl h1 h2 h3 h4
   obtain rfl := Option.some.inj h
   obtain ⟨e1, l1⟩ := numM_iff.1 h1
   obtain ⟨e2, n2, l2⟩ := listM_iff.1 h2
   obtain ⟨e3, l3, l4⟩ := spanM_iff.1 h3
   obtain ⟨e4, l5⟩ := nextM_iff.1 h4
   refine ⟨?_, ?_, ?_, e4, rfl, ⟨Int.natCast_nonneg _, by show (r : Int) ≤ _; omega⟩, fun e => n2 (ints_ne.1 e), ints_big l2, ⟨Int.natCast_nonneg _, by show (mm.1 : Int) ≤ _; omega⟩, ⟨Int.natCast_nonneg _, by show (mm.2 : Int) ≤ _; omega⟩, ints_big l5⟩
   ·unfold decI; rw [Int.toNat_natCast]; exact e1
   ·rw [numsM_ne n2]; exact e2
   ·unfold rangeM decI; rw [Int.toNat_natCast, Int.toNat_natCast]; exact e3
  ·cases h
 ·rintro ⟨rfl, rfl, rfl, rfl, rfl, ⟨h1, h2⟩, h3, h4, ⟨h5, h6⟩, ⟨h7, h8⟩, h9⟩
  have e1 : numM (decI s.recipe) = some s.recipe.toNat := numM_dec (by omega)
  have e2 : listM (numsM s.tools) = some (s.tools.map Int.toNat) := by
   rw [listM_iff]
   refine ⟨?_, by simpa using h3, fun n hn => ?_⟩
   ·unfold numsM; rw [if_neg h3, List.map_map]; rfl
   ·obtain ⟨m, hm, rfl⟩ := List.mem_map.1 hn
    have := (h4 m hm).2; omega
  have e3 : spanM (rangeM s.min s.max) = some (s.min.toNat, s.max.toNat) := spanM_iff.2 ⟨rfl, by omega, by omega⟩
  have e4 : nextM (numsM s.next) = some (s.next.map Int.toNat) := by
   rw [nextM_iff, ints_of h9]
   refine ⟨rfl, fun n hn => ?_⟩
   obtain ⟨m, hm, rfl⟩ := List.mem_map.1 hn
   have := (h9 m hm).2; omega
  rw [e1, e2, e3, e4]
  simp only
  rw [ints_of h4, ints_of h9, Int.toNat_of_nonneg h1, Int.toNat_of_nonneg h5, Int.toNat_of_nonneg h7]
theorem decI_no {c : UInt8} (h : isDig c = false) (n : Int) : c ∉ decI n := dec_no h _
theorem join_no {c d : UInt8} (hd : c ≠ d) : ∀ {ps : List (List UInt8)}, (∀ p ∈ ps, c ∉ p) → c ∉ joinC d ps
 | [], _ => by simp [joinC]
 | [x], h => h x (by simp)
 | x :: y :: r, h => by
  show c ∉ x ++ d :: joinC d (y :: r)
  rw [List.mem_append, List.mem_cons, not_or, not_or]
  exact ⟨h x (by simp), hd, join_no hd fun p hp => h p (by simp [hp])⟩
theorem numsM_no {c : UInt8} (h : isDig c = false) (h1 : c ≠ 44) (h2 : c ≠ 45) (l : List Int) : c ∉ numsM l := by
 unfold numsM
 split
 ·simpa using h2
 ·exact join_no h1 fun p hp => by
   obtain ⟨n, _, rfl⟩ := List.mem_map.1 hp
   exact decI_no h n
theorem rangeM_no {c : UInt8} (h : isDig c = false) (h1 : c ≠ 46) (a b : Int) : c ∉ rangeM a b := by
 unfold rangeM
 rw [List.mem_append, List.mem_cons, List.mem_cons, not_or, not_or, not_or]
 exact ⟨decI_no h a, h1, h1, decI_no h b⟩
theorem stepW_no {c : UInt8} (h : isDig c = false) (h1 : c ≠ 44) (h2 : c ≠ 45) (h3 : c ≠ 46) (h4 : c ∉ wStep ++ wRecipe ++ wTools ++ wTime ++ wNext ++ wBack ++ wLimit) (i : Nat) (s : Step) : ∀ p ∈ stepW i s, c ∉ p := by
 simp only [List.mem_append, not_or] at h4
 obtain ⟨⟨⟨⟨⟨⟨k1, k2⟩, k3⟩, k4⟩, k5⟩, k6⟩, k7⟩ := h4
 intro p hp
 unfold stepW at hp
 have hd := fun n => decI_no h n
 have hn := fun l => numsM_no h h1 h2 l
 have hr := fun a b => rangeM_no h h3 a b
 have hi := dec_no h i
 rcases List.mem_append.1 hp with hp | hp
 ·simp only [List.mem_cons, List.not_mem_nil, or_false] at hp
  rcases hp with rfl | rfl | rfl | rfl | rfl | rfl | rfl | rfl | rfl | rfl
  ·exact k1
  ·exact hi
  ·exact k2
  ·exact hd _
  ·exact k3
  ·exact hn _
  ·exact k4
  ·exact hr _ _
  ·exact k5
  ·exact hn _
 ·split at hp
  ·simp only [List.mem_cons, List.not_mem_nil, or_false] at hp
   rcases hp with rfl | rfl | rfl | rfl
   ·exact k6
   ·exact hd _
   ·exact k7
   ·exact hd _
  ·cases hp
theorem stepM_iff {i : Nat} {line : List UInt8} {s : Step} : stepM i line = some s ↔ line = stepLine i s ∧ StepN s := by
 unfold stepM
 constructor
 ·intro h
  split at h
  ·rename_i a0 a1 a2 a3 a4 a5 a6 a7 a8 a9 hs
   split at h
   ·rename_i hf
    unfold fixedM at hf
    simp only [Bool.and_eq_true, beq_iff_eq] at hf
    obtain ⟨⟨⟨⟨⟨rfl, rfl⟩, rfl⟩, rfl⟩, rfl⟩, rfl⟩ := hf
    obtain ⟨rfl, rfl, rfl, rfl, hb, k1, k2, k3, k4, k5, k6⟩ := bodyM_iff.1 h
    simp only [Option.some.injEq, Prod.mk.injEq] at hb
    refine ⟨?_, k1, k2, k3, k4, k5, k6, .inl ⟨hb.1.symm, hb.2.symm⟩⟩
    unfold stepLine stepW
    rw [if_neg (by rw [← hb.1]; decide), List.append_nil]
    exact ((split_iff 32).1 hs).1
   ·cases h
  ·rename_i a0 a1 a2 a3 a4 a5 a6 a7 a8 a9 b0 b1 b2 b3 hs
   split at h
   ·rename_i hf
    obtain ⟨hf, rfl, rfl⟩ := hf
    unfold fixedM at hf
    simp only [Bool.and_eq_true, beq_iff_eq] at hf
    obtain ⟨⟨⟨⟨⟨rfl, rfl⟩, rfl⟩, rfl⟩, rfl⟩, rfl⟩ := hf
    obtain ⟨rfl, rfl, rfl, rfl, hb, k1, k2, k3, k4, k5, k6⟩ := bodyM_iff.1 h
    unfold backM at hb
    split at hb
    ·rename_i x y h1 h2
     obtain ⟨e1, l1⟩ := numM_iff.1 h1
     obtain ⟨e2, l2⟩ := numM_iff.1 h2
     simp only [Option.some.injEq, Prod.mk.injEq] at hb
     refine ⟨?_, k1, k2, k3, k4, k5, k6, .inr ⟨⟨by omega, by omega⟩, ⟨by omega, by omega⟩⟩⟩
     have f1 : b1 = decI s.back := by unfold decI; rw [← hb.1, Int.toNat_natCast]; exact e1
     have f2 : b3 = decI s.limit := by unfold decI; rw [← hb.2, Int.toNat_natCast]; exact e2
     unfold stepLine stepW
     rw [if_pos (by omega), ← f1, ← f2]
     exact ((split_iff 32).1 hs).1
    ·cases hb
   ·cases h
  ·cases h
 ·rintro ⟨rfl, hN⟩
  have hs : splitC 32 (stepLine i s) = stepW i s := (split_iff 32).2 ⟨rfl, by unfold stepW; simp, stepW_no rfl (by decide) (by decide) (by decide) (by decide) i s⟩
  rw [hs]
  have hf : fixedM i wStep (dec i) wRecipe wTools wTime wNext = true := by unfold fixedM; simp
  rcases hN.back with ⟨h1, h2⟩ | ⟨⟨h1, h1'⟩, ⟨h2, h2'⟩⟩
  ·unfold stepW
   rw [if_neg (by rw [h1]; decide), List.append_nil]
   simp only
   rw [if_pos hf, bodyM_iff]
   exact ⟨rfl, rfl, rfl, rfl, by rw [h1, h2], hN.recipe, hN.tools, hN.toolsN, hN.min, hN.max, hN.next⟩
  ·unfold stepW
   rw [if_pos h1]
   simp only [List.cons_append, List.nil_append]
   rw [if_pos (by refine ⟨hf, ?_, ?_⟩ <;> trivial), bodyM_iff]
   refine ⟨rfl, rfl, rfl, rfl, ?_, hN.recipe, hN.tools, hN.toolsN, hN.min, hN.max, hN.next⟩
   unfold backM decI
   rw [numM_dec (by omega), numM_dec (by omega)]
   simp only
   rw [Int.toNat_of_nonneg h1, Int.toNat_of_nonneg h2]
theorem windowM_iff {line : List UInt8} {w : Window} : windowM line = some w ↔ line = windowLine w ∧ big w.src ∧ big w.dst ∧ big w.limit := by
 unfold windowM
 constructor
 ·intro h
  split at h
  ·rename_i a0 a1 a2 a3 hs
   split at h
   ·rename_i h0
    subst h0
    split at h
    ·rename_i x y z h1 h2 h3
     obtain ⟨rfl, l1⟩ := numM_iff.1 h1
     obtain ⟨rfl, l2⟩ := numM_iff.1 h2
     obtain ⟨rfl, l3⟩ := numM_iff.1 h3
     obtain rfl := Option.some.inj h
     exact ⟨((split_iff 32).1 hs).1, ⟨by show (0 : Int) ≤ x; omega, by show (x : Int) ≤ _; omega⟩, ⟨by show (0 : Int) ≤ y; omega, by show (y : Int) ≤ _; omega⟩, ⟨by show (0 : Int) ≤ z; omega, by show (z : Int) ≤ _; omega⟩⟩
    ·cases h
   ·cases h
  ·cases h
 ·rintro ⟨rfl, ⟨h1, h1'⟩, ⟨h2, h2'⟩, ⟨h3, h3'⟩⟩
  have hs : splitC 32 (windowLine w) = windowW w := (split_iff 32).2 ⟨rfl, by unfold windowW; simp, fun p hp => by
   unfold windowW at hp
   simp only [List.mem_cons, List.not_mem_nil, or_false] at hp
   rcases hp with rfl | rfl | rfl | rfl
   ·decide
   ·exact decI_no rfl _
   ·exact decI_no rfl _
   ·exact decI_no rfl _⟩
  rw [hs]
  unfold windowW
  simp only [if_true]
  unfold decI
  rw [numM_dec (by omega), numM_dec (by omega), numM_dec (by omega)]
  simp only
  rw [Int.toNat_of_nonneg h1, Int.toNat_of_nonneg h2, Int.toNat_of_nonneg h3]
theorem moveM_iff {line : List UInt8} {a b : Int} : moveM line = some (a, b) ↔ line = moveLine a b ∧ big a ∧ big b := by
 unfold moveM
 constructor
 ·intro h
  split at h
  ·rename_i a0 a1 hs
   split at h
   ·rename_i h0
    subst h0
    rw [Option.map_eq_some_iff] at h
    obtain ⟨⟨x, y⟩, h1, h2⟩ := h
    obtain ⟨rfl, l1, l2⟩ := spanM_iff.1 h1
    simp only [Prod.mk.injEq] at h2
    obtain ⟨rfl, rfl⟩ := h2
    exact ⟨((split_iff 32).1 hs).1, ⟨by omega, by omega⟩, ⟨by omega, by omega⟩⟩
   ·cases h
  ·cases h
 ·rintro ⟨rfl, ⟨h1, h1'⟩, ⟨h2, h2'⟩⟩
  have hs : splitC 32 (moveLine a b) = moveW a b := (split_iff 32).2 ⟨rfl, by unfold moveW; simp, fun p hp => by
   unfold moveW at hp
   simp only [List.mem_cons, List.not_mem_nil, or_false] at hp
   rcases hp with rfl | rfl
   ·decide
   ·exact rangeM_no rfl (by decide) _ _⟩
  rw [hs]
  unfold moveW
  simp only [if_true]
  have hsp : spanM (rangeM a b) = some (a.toNat, b.toNat) := spanM_iff.2 ⟨rfl, by omega, by omega⟩
  rw [hsp]
  simp only [Option.map_some]
  rw [Int.toNat_of_nonneg h1, Int.toNat_of_nonneg h2]
end Go.Proofs.YtnggomfbgmlkhaaGreatDoor

/- How the reference reads a line, byte by byte: in plain Lean. -/
namespace Go.Proofs.YtnggomfbgmlkhaaGreatDoor
open Go

end Go.Proofs.YtnggomfbgmlkhaaGreatDoor

/- What the reference reads of a line, and that it is what the program reads: in plain Lean. -/
namespace Go.Proofs.YtnggomfbgmlkhaaGreatDoor
open Go

def backL (bl : Int × Int) : List UInt8 := if 0 ≤ bl.1 then (32 :: wBack ++ [32]) ++ (decI bl.1 ++ ((32 :: wLimit ++ [32]) ++ decI bl.2)) else []
end Go.Proofs.YtnggomfbgmlkhaaGreatDoor

/- The reference reads the lines that the program reads: in plain Lean. -/
namespace Go.Proofs.YtnggomfbgmlkhaaGreatDoor
open Go

theorem stepLine_flat (i : Nat) (s : Step) : stepLine i s = (wStep ++ 32 :: (dec i ++ 32 :: (wRecipe ++ [32]))) ++ (decI s.recipe ++ ((32 :: wTools ++ [32]) ++ (numsM s.tools ++ ((32 :: wTime ++ [32]) ++ (decI s.min ++ ([46, 46] ++ (decI s.max ++ ((32 :: wNext ++ [32]) ++ (numsM s.next ++ backL (s.back, s.limit)))))))))) := by
 unfold stepLine stepW backL rangeM
 by_cases h : 0 ≤ s.back
 ·rw [if_pos h, if_pos h]
  simp [joinC]
 ·rw [if_neg h, if_neg h]
  simp [joinC]
end Go.Proofs.YtnggomfbgmlkhaaGreatDoor

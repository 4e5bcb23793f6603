/- Steps that follow, ways, cycles and times, in plain Lean. -/
import Derived.Test.YtnggomfbgmlkhaaGreatDoorYl

/- What the functions of package graph compute, in plain Lean: no program here. -/
namespace Go.Proofs.YtnggomfbgmlkhaaGreatDoor

def badStep (f : Flow) (n : Int) : Bool := decide (n < 0) || decide ((f.steps.length : Int) ≤ n)
def given (f : Flow) (l : List Int) : Bool := valid f && !l.any (badStep f)

def afterGo : Int → List Int → List Int
 | back, [] => if 0 ≤ back then [back] else []
 | back, n :: r => (if 0 ≤ back ∧ back < n then [back] else []) ++ n :: afterGo (if back ≤ n then -1 else back) r
def afterL (s : Step) : List Int := afterGo s.back s.next

def isEnd (s : Step) : Bool := (s.next.length : Int) == 0

def stepD (f : Flow) (n : Int) : Step := f.steps.getD n.toNat ⟨0, [], 0, 0, [], 0, 0⟩
def follow (f : Flow) (n : Int) : List Int := if given f [n] then afterL (stepD f n) else []

theorem afterGo_len (back : Int) (l : List Int) : (afterGo back l).length ≤ 2 * l.length + 1 := by
 induction l generalizing back with
 | nil => unfold afterGo; split <;> simp
 | cons n r ih =>
  unfold afterGo
  have := ih (if back ≤ n then -1 else back)
  simp only [List.length_append, List.length_cons]
  split <;> simp <;> omega

theorem valid_step {f : Flow} (h : valid f = true) {n : Int} (h0 : 0 ≤ n) (h1 : n < f.steps.length) : rightStep (stepD f n) f.steps.length = true := by
 unfold valid at h
 simp only [Bool.and_eq_true, List.all_eq_true] at h
 refine h.1.2 _ ?_
 unfold stepD
 rw [List.getD_eq_getElem?_getD, List.getElem?_eq_getElem (by omega)]
 exact List.getElem_mem _

theorem rightStep_next {s : Step} {n : Int} (h : rightStep s n = true) : s.next.length ≤ 4 := by
 unfold rightStep at h
 simp only [Bool.and_eq_true, decide_eq_true_eq] at h
 omega

end Go.Proofs.YtnggomfbgmlkhaaGreatDoor

/- Reaching, in plain Lean. -/
namespace Go.Proofs.YtnggomfbgmlkhaaGreatDoor

def visit (f : Flow) : Nat → List Bool → Int → List Bool
 | 0, out, _ => out
 | k + 1, out, n => (afterL (stepD f n)).foldl (fun o m => if o.getD m.toNat true then o else visit f k o m) (out.set n.toNat true)

def visitAll (f : Flow) (k : Nat) (o : List Bool) (l : List Int) : List Bool := l.foldl (fun o m => if o.getD m.toNat true then o else visit f k o m) o

theorem visit_succ (f : Flow) (k : Nat) (out : List Bool) (n : Int) : visit f (k + 1) out n = visitAll f k (out.set n.toNat true) (afterL (stepD f n)) := rfl

theorem visitAll_snoc (f : Flow) (k : Nat) (o : List Bool) (pre : List Int) (x : Int) :
  visitAll f k o (pre ++ [x]) = if (visitAll f k o pre).getD x.toNat true = true then visitAll f k o pre else visit f k (visitAll f k o pre) x := by
 unfold visitAll
 rw [List.foldl_append, List.foldl_cons, List.foldl_nil]

def reached (f : Flow) (n : Int) : List Bool := visit f f.steps.length (List.replicate f.steps.length false) n

def trues : Nat → List Bool → List Int
 | _, [] => []
 | k, b :: r => (if b then [(k : Int)] else []) ++ trues (k + 1) r
def reach (f : Flow) (n : Int) : List Int := if given f [n] then trues 0 (reached f n) else []

def ends (f : Flow) : List Int := (reach f 0).filter fun n => isEnd (stepD f n)

theorem visitAll_keeps (f : Flow) (k : Nat) (hv : ∀ o n, (visit f k o n).length = o.length ∧ (visit f k o n).count false ≤ o.count false) (l : List Int) (o : List Bool) :
  (visitAll f k o l).length = o.length ∧ (visitAll f k o l).count false ≤ o.count false := by
 induction l generalizing o with
 | nil => exact ⟨rfl, Nat.le_refl _⟩
 | cons m r ih =>
  unfold visitAll at ih ⊢
  rw [List.foldl_cons]
  by_cases h : o.getD m.toNat true = true
  ·rw [if_pos h]; exact ih o
  ·rw [if_neg h]
   have h1 := ih (visit f k o m)
   have h2 := hv o m
   exact ⟨h1.1.trans h2.1, Nat.le_trans h1.2 h2.2⟩

theorem count_set_true (o : List Bool) (i : Nat) : (o.set i true).count false ≤ o.count false := by
 by_cases h : i < o.length
 ·rw [List.count_set h]; simp
 ·rw [List.set_eq_of_length_le (by omega)]; exact Nat.le_refl _

theorem visit_keeps (f : Flow) (k : Nat) : ∀ o n, (visit f k o n).length = o.length ∧ (visit f k o n).count false ≤ o.count false := by
 induction k with
 | zero => intro o n; exact ⟨rfl, Nat.le_refl _⟩
 | succ k ih =>
  intro o n
  rw [visit_succ]
  have h := visitAll_keeps f k ih (afterL (stepD f n)) (o.set n.toNat true)
  exact ⟨by rw [h.1]; simp, Nat.le_trans h.2 (count_set_true o _)⟩

theorem count_set_lt {o : List Bool} {i : Nat} (h : o[i]? = some false) : (o.set i true).count false + 1 = o.count false := by
 obtain ⟨hi, he⟩ := List.getElem?_eq_some_iff.1 h
 rw [List.count_set hi, he]
 have : 0 < o.count false := List.count_pos_iff.2 (List.mem_iff_getElem.2 ⟨i, hi, he⟩)
 simp; omega

theorem afterGo_mem {back : Int} {l : List Int} {m : Int} (h : m ∈ afterGo back l) : m ∈ l ∨ (m = back ∧ 0 ≤ back) := by
 induction l generalizing back with
 | nil =>
  unfold afterGo at h
  split at h
  ·simp at h; exact .inr ⟨h, by assumption⟩
  ·simp at h
 | cons n r ih =>
  unfold afterGo at h
  rw [List.mem_append] at h
  rcases h with h | h
  ·split at h
   ·simp at h; rename_i hc; exact .inr ⟨h, hc.1⟩
   ·simp at h
  ·rcases List.mem_cons.1 h with rfl | h
   ·exact .inl (List.mem_cons_self)
   ·rcases ih h with h | ⟨h1, h2⟩
    ·exact .inl (List.mem_cons_of_mem _ h)
    ·split at h1
     ·rename_i hc; rw [if_pos hc] at h2; omega
     ·rename_i hc; rw [if_neg hc] at h2; exact .inr ⟨h1, h2⟩

theorem ascGo_mem {lo hi p : Int} {l : List Int} (h : ascGo lo hi p l = true) : ∀ m ∈ l, lo ≤ m ∧ m ≤ hi ∧ p < m := by
 induction l generalizing p with
 | nil => simp
 | cons n r ih =>
  simp only [ascGo, within, Bool.and_eq_true, decide_eq_true_eq] at h
  intro m hm
  rcases List.mem_cons.1 hm with rfl | hm
  ·omega
  ·have := ih h.2 m hm; omega

theorem ascending_mem {lo hi : Int} {l : List Int} (h : ascending l lo hi = true) : ∀ m ∈ l, lo ≤ m ∧ m ≤ hi := by
 cases l with
 | nil => simp
 | cons n r =>
  simp only [ascending, within, Bool.and_eq_true, decide_eq_true_eq] at h
  intro m hm
  rcases List.mem_cons.1 hm with rfl | hm
  ·omega
  ·have := ascGo_mem h.2 m hm; omega

theorem right_next {s : Step} {n : Int} (h : rightStep s n = true) : ∀ m ∈ s.next, 0 ≤ m ∧ m < n := by
 unfold rightStep at h
 simp only [Bool.and_eq_true, decide_eq_true_eq] at h
 intro m hm
 have := ascending_mem h.1.1.1.2 m hm
 omega
theorem right_back {s : Step} {n : Int} (h : rightStep s n = true) : s.back < n ∨ s.back = -1 := by
 unfold rightStep within at h
 simp only [Bool.and_eq_true, decide_eq_true_eq, Bool.or_eq_true, beq_iff_eq] at h
 rcases h.1.1.1.1.1.1.1 with h | h <;> omega
theorem after_range {f : Flow} (h : valid f = true) {n : Int} (h0 : 0 ≤ n) (h1 : n < f.steps.length) : ∀ m ∈ afterL (stepD f n), 0 ≤ m ∧ m < f.steps.length := by
 intro m hm
 have hr := valid_step h h0 h1
 rcases afterGo_mem hm with h2 | ⟨rfl, h2⟩
 ·exact right_next hr m h2
 ·rcases right_back hr with h3 | h3 <;> omega

end Go.Proofs.YtnggomfbgmlkhaaGreatDoor

/- The search for a shortest cycle, in plain Lean. -/
namespace Go.Proofs.YtnggomfbgmlkhaaGreatDoor

def lastD (l : List Int) : Int := l.getLastD 0

def cycScan (live : List Bool) (first : Int) (l : List Int) : List Int → List (List Int) → List Bool → Option (List (List Int) × List Bool)
 | [], q, seen => some (q, seen)
 | n :: r, q, seen =>
  if n = first then none
  else if first < n ∧ live.getD n.toNat false = true ∧ seen.getD n.toNat true = false then cycScan live first l r (q ++ [l ++ [n]]) (seen.set n.toNat true)
  else cycScan live first l r q seen

def cycGo (f : Flow) (live : List Bool) (first : Int) : Nat → List (List Int) → List Bool → List Int
 | _, [], _ => []
 | 0, _ :: _, _ => []
 | k + 1, l :: rest, seen =>
  match cycScan live first l (stepD f (lastD l)).next rest seen with
  | none => l
  | some (q, seen') => cycGo f live first k q seen'

def cycle (f : Flow) (live : List Bool) (first : Int) : List Int := cycGo f live first (1 + f.steps.length) [[first]] (List.replicate f.steps.length false)

end Go.Proofs.YtnggomfbgmlkhaaGreatDoor

/- Ways and their order, in plain Lean. -/
namespace Go.Proofs.YtnggomfbgmlkhaaGreatDoor

def cmpI (a b : Int) : Int := if a < b then -1 else if b < a then 1 else 0
def cmpL : List Int → List Int → Int
 | [], [] => 0
 | [], _ :: _ => -1
 | _ :: _, [] => 1
 | a :: as, b :: bs => if cmpI a b = 0 then cmpL as bs else cmpI a b
def orI : List Int → Int
 | [] => 0
 | n :: r => if n = 0 then orI r else n

structure Wy where
 time : Int
 steps : List Int

def order (a b : Wy) : Int := orI [cmpI a.time b.time, cmpI a.steps.length b.steps.length, cmpL a.steps b.steps]

end Go.Proofs.YtnggomfbgmlkhaaGreatDoor

/- The quickest ways, in plain Lean. -/
namespace Go.Proofs.YtnggomfbgmlkhaaGreatDoor

def better (w : Wy) (o : Option Wy) : Bool := match o with
 | none => true
 | some x => decide (order w x < 0)
def addStep (w : Wy) (o : List (Option Wy)) (n : Int) : List (Option Wy) := if better w (o.getD n.toNat none) = true then o.set n.toNat (some w) else o
def addAll (w : Wy) (o : List (Option Wy)) (l : List Int) : List (Option Wy) := l.foldl (addStep w) o

theorem addStep_len (w : Wy) (o : List (Option Wy)) (n : Int) : (addStep w o n).length = o.length := by
 unfold addStep; split <;> simp
theorem addAll_len (w : Wy) (l : List Int) : ∀ o, (addAll w o l).length = o.length := by
 induction l with
 | nil => intro o; rfl
 | cons n r ih => intro o; unfold addAll at ih ⊢; rw [List.foldl_cons, ih, addStep_len]
theorem addAll_snoc (w : Wy) (o : List (Option Wy)) (l : List Int) (n : Int) : addAll w o (l ++ [n]) = addStep w (addAll w o l) n := by
 unfold addAll; rw [List.foldl_append]; rfl

def pickStep (out : List (Option Wy)) (done : List Bool) (best : Int) (n : Nat) : Int :=
 match out.getD n none with
 | none => best
 | some w => if done.getD n true = true then best else if best < 0 then n else if better w (out.getD best.toNat none) = true then n else best
def pickMin (out : List (Option Wy)) (done : List Bool) : Int := (List.range out.length).foldl (pickStep out done) (-1)

def waysGo (f : Flow) : Nat → List (Option Wy) → List Bool → List (Option Wy)
 | 0, out, _ => out
 | k + 1, out, done =>
  if pickMin out done < 0 then out else
  match out.getD (pickMin out done).toNat none with
  | none => out
  | some v => waysGo f k (addAll ⟨v.time + (stepD f (pickMin out done)).min + f.moveMin, v.steps ++ [pickMin out done]⟩ out (afterL (stepD f (pickMin out done)))) (done.set (pickMin out done).toNat true)

def ways (f : Flow) (start : Int) : List (Option Wy) :=
 waysGo f (f.steps.length + 1) (addAll ⟨f.moveMin, []⟩ (List.replicate f.steps.length none) (afterL (stepD f start))) (List.replicate f.steps.length false)

end Go.Proofs.YtnggomfbgmlkhaaGreatDoor

/- The quickest ways, in plain Lean: bounds. -/
namespace Go.Proofs.YtnggomfbgmlkhaaGreatDoor

/-- Every way of a list has some property. -/
def AllW (p : Wy → Prop) (out : List (Option Wy)) : Prop := ∀ w, some w ∈ out → p w
theorem AllW.add {p : Wy → Prop} {out : List (Option Wy)} (h : AllW p out) {w : Wy} (hw : p w) (n : Int) : AllW p (addStep w out n) := by
 intro x hx
 unfold addStep at hx
 split at hx
 ·rcases List.mem_or_eq_of_mem_set hx with h1 | h1
  ·exact h x h1
  ·obtain rfl := Option.some.inj h1; exact hw
 ·exact h x hx
theorem AllW.addAll {p : Wy → Prop} {w : Wy} (hw : p w) (l : List Int) : ∀ {out : List (Option Wy)}, AllW p out → AllW p (addAll w out l) := by
 induction l with
 | nil => exact fun h => h
 | cons n r ih => intro out h; exact ih (h.add hw n)

def pickTo (out : List (Option Wy)) (done : List Bool) (k : Nat) : Int := (List.range k).foldl (pickStep out done) (-1)
theorem pickTo_succ (out : List (Option Wy)) (done : List Bool) (k : Nat) : pickTo out done (k + 1) = pickStep out done (pickTo out done k) k := by
 unfold pickTo; rw [List.range_succ, List.foldl_append]; rfl
/-- The step that is picked has a way, and is not done. -/
theorem pickTo_ok (out : List (Option Wy)) (done : List Bool) (k : Nat) : pickTo out done k = -1 ∨ (0 ≤ pickTo out done k ∧ pickTo out done k < k ∧ (∃ w, out.getD (pickTo out done k).toNat none = some w) ∧ done.getD (pickTo out done k).toNat true = false) := by
 induction k with
 | zero => exact .inl rfl
 | succ k ih =>
  rw [pickTo_succ]
  unfold pickStep
  cases ho : out.getD k none with
  | none =>
   simp only
   rcases ih with h | ⟨h1, h2, h3⟩
   ·exact .inl h
   ·exact .inr ⟨h1, by omega, h3⟩
  | some w =>
   simp only
   have keep : pickTo out done k = -1 ∨ (0 ≤ pickTo out done k ∧ pickTo out done k < (k + 1 : Nat) ∧ (∃ w, out.getD (pickTo out done k).toNat none = some w) ∧ done.getD (pickTo out done k).toNat true = false) := by
    rcases ih with h | ⟨h1, h2, h3⟩
    ·exact .inl h
    ·exact .inr ⟨h1, by omega, h3⟩
   cases hd : done.getD k true with
   | true => simpa using keep
   | false =>
    have new : ((k : Int) = -1 ∨ (0 ≤ (k : Int) ∧ (k : Int) < (k + 1 : Nat) ∧ (∃ w, out.getD (k : Int).toNat none = some w) ∧ done.getD (k : Int).toNat true = false)) := .inr ⟨by omega, by omega, ⟨w, by simpa using ho⟩, by simpa using hd⟩
    simp only [Bool.false_eq_true, if_false]
    split
    ·exact new
    ·split
     ·exact new
     ·exact keep
end Go.Proofs.YtnggomfbgmlkhaaGreatDoor

/- Reaching: what the search marks, in plain Lean: no program here. -/
namespace Go.Proofs.YtnggomfbgmlkhaaGreatDoor

def isIn (o : List Bool) (m : Int) : Prop := o.getD m.toNat false = true
def InR (f : Flow) (m : Int) : Prop := 0 ≤ m ∧ m < f.steps.length

inductive Rch (f : Flow) : Int → Int → Prop where
 | refl (a : Int) : Rch f a a
 | step {a b c : Int} : Rch f a b → c ∈ afterL (stepD f b) → Rch f a c

theorem Rch.trans {f : Flow} {a b c : Int} (h : Rch f a b) (r : Rch f b c) : Rch f a c := by
 induction r with
 | refl => exact h
 | step _ h2 ih => exact .step ih h2
theorem Rch.head {f : Flow} {a b c : Int} (h : b ∈ afterL (stepD f a)) (r : Rch f b c) : Rch f a c := Rch.trans (.step (.refl a) h) r

theorem isIn_getD {f : Flow} {o : List Bool} (hl : o.length = f.steps.length) {m : Int} (hm : InR f m) (b : Bool) : o.getD m.toNat b = true ↔ isIn o m := by
 unfold isIn
 have : m.toNat < o.length := by have := hm.1; have := hm.2; omega
 simp [List.getD_eq_getElem?_getD, List.getElem?_eq_getElem this]

theorem isIn_set {f : Flow} {o : List Bool} (hl : o.length = f.steps.length) {n m : Int} (hn : InR f n) (hm : InR f m) : isIn (o.set n.toNat true) m ↔ m = n ∨ isIn o m := by
 unfold isIn
 have h1 : m.toNat < o.length := by have := hm.1; have := hm.2; omega
 simp only [List.getD_eq_getElem?_getD, List.getElem?_set]
 by_cases h : n.toNat = m.toNat
 ·have hmn : m = n := by have := hm.1; have := hn.1; omega
  subst hmn
  simp [h1]
 ·have hmn : m ≠ n := fun e => h (by rw [e])
  simp [h, hmn]

/-- What a search leaves: nothing is unmarked; all that is new is reached from where it began, and closed. -/
structure Vis (f : Flow) (src : Int → Prop) (o o' : List Bool) : Prop where
 len : o'.length = o.length
 mono : ∀ m, InR f m → isIn o m → isIn o' m
 fresh : ∀ m, InR f m → isIn o' m → ¬ isIn o m → (∃ b, src b ∧ Rch f b m) ∧ ∀ c ∈ afterL (stepD f m), isIn o' c

theorem isIn_replicate (n : Nat) (m : Int) : ¬ isIn (List.replicate n false) m := by
 unfold isIn
 rw [List.getD_eq_getElem?_getD, List.getElem?_replicate]
 split <;> simp

theorem given_one {f : Flow} {n : Int} : given f [n] = true ↔ valid f = true ∧ InR f n := by
 unfold given badStep InR
 simp

theorem given_two {f : Flow} {n m : Int} : given f [n, m] = true ↔ valid f = true ∧ InR f n ∧ InR f m := by
 unfold given badStep InR
 simp

end Go.Proofs.YtnggomfbgmlkhaaGreatDoor

/- The order of ways, in plain Lean: no program here. -/
namespace Go.Proofs.YtnggomfbgmlkhaaGreatDoor

theorem cmpI_neg (a b : Int) : cmpI a b < 0 ↔ a < b := by
 unfold cmpI
 by_cases h : a < b
 ·simp [h]
 ·by_cases h2 : b < a <;> simp [h, h2]
theorem cmpI_zero (a b : Int) : cmpI a b = 0 ↔ a = b := by
 unfold cmpI
 by_cases h : a < b
 ·simp [h]; omega
 ·by_cases h2 : b < a
  ·simp [h, h2]; omega
  ·simp [h, h2]; omega
theorem cmpI_flip (a b : Int) : cmpI b a = - cmpI a b := by
 unfold cmpI
 by_cases h : a < b
 ·simp [h, show ¬ b < a from by omega]
 ·by_cases h2 : b < a <;> simp [h, h2]

theorem cmpL_flip : ∀ (a b : List Int), cmpL b a = - cmpL a b
 | [], [] => rfl
 | [], _ :: _ => rfl
 | _ :: _, [] => rfl
 | a :: as, b :: bs => by
  simp only [cmpL, cmpI_flip a b]
  by_cases h : cmpI a b = 0
  ·rw [if_pos h, if_pos (by omega)]; exact cmpL_flip as bs
  ·rw [if_neg h, if_neg (by omega)]
theorem cmpL_zero : ∀ (a b : List Int), cmpL a b = 0 ↔ a = b
 | [], [] => by simp [cmpL]
 | [], _ :: _ => by simp [cmpL]
 | _ :: _, [] => by simp [cmpL]
 | a :: as, b :: bs => by
  simp only [cmpL]
  by_cases h : cmpI a b = 0
  ·rw [if_pos h, cmpL_zero as bs, (cmpI_zero a b).1 h]; simp
  ·rw [if_neg h]
   have : a ≠ b := fun e => h ((cmpI_zero a b).2 e)
   simp [h, this]
theorem cmpL_trans : ∀ (a b c : List Int), cmpL a b < 0 → cmpL b c < 0 → cmpL a c < 0
 | [], b, [], h1, h2 => by
  cases b with
  | nil => simp [cmpL] at h1
  | cons x xs => simp [cmpL] at h2
 | [], _, _ :: _, _, _ => by simp [cmpL]
 | _ :: _, [], _, h1, _ => by simp [cmpL] at h1
 | _ :: _, _ :: _, [], _, h2 => by simp [cmpL] at h2
 | a :: as, b :: bs, c :: cs, h1, h2 => by
  simp only [cmpL] at h1 h2 ⊢
  have e1 := cmpI_neg a b; have e2 := cmpI_neg b c; have e3 := cmpI_neg a c
  have z1 := cmpI_zero a b; have z2 := cmpI_zero b c; have z3 := cmpI_zero a c
  by_cases p1 : cmpI a b = 0
  ·rw [if_pos p1] at h1
   have hab := z1.1 p1
   subst hab
   by_cases p2 : cmpI a c = 0
   ·rw [if_pos p2] at h2 ⊢
    exact cmpL_trans as bs cs h1 h2
   ·rw [if_neg p2] at h2 ⊢; exact h2
  ·rw [if_neg p1] at h1
   have hab := e1.1 h1
   by_cases p2 : cmpI b c = 0
   ·have hbc := z2.1 p2
    subst hbc
    rw [if_neg p1]; exact h1
   ·rw [if_neg p2] at h2
    have hbc := e2.1 h2
    have : cmpI a c < 0 := e3.2 (by omega)
    rw [if_neg (by omega)]; exact this
/-- 'is quicker than, or the same'. -/
def Le (a b : Wy) : Prop := order a b ≤ 0
def Lt (a b : Wy) : Prop := order a b < 0

theorem order_flip (a b : Wy) : order b a = - order a b := by
 unfold order
 simp only [orI, cmpI_flip a.time b.time, cmpI_flip (a.steps.length : Int) b.steps.length, cmpL_flip a.steps b.steps]
 by_cases h1 : cmpI a.time b.time = 0
 ·rw [if_pos h1, if_pos (by omega)]
  by_cases h2 : cmpI (a.steps.length : Int) b.steps.length = 0
  ·rw [if_pos h2, if_pos (by omega)]
   by_cases h3 : cmpL a.steps b.steps = 0
   ·rw [if_pos h3, if_pos (by omega)]; rfl
   ·rw [if_neg h3, if_neg (by omega)]
  ·rw [if_neg h2, if_neg (by omega)]
 ·rw [if_neg h1, if_neg (by omega)]

theorem Lt_iff (a b : Wy) : Lt a b ↔ a.time < b.time ∨ (a.time = b.time ∧ (a.steps.length < b.steps.length ∨ (a.steps.length = b.steps.length ∧ cmpL a.steps b.steps < 0))) := by
 unfold Lt order
 simp only [orI]
 have e1 := cmpI_neg a.time b.time; have z1 := cmpI_zero a.time b.time
 have e2 := cmpI_neg (a.steps.length : Int) b.steps.length; have z2 := cmpI_zero (a.steps.length : Int) b.steps.length
 by_cases h1 : cmpI a.time b.time = 0
 ·rw [if_pos h1]
  have := z1.1 h1
  by_cases h2 : cmpI (a.steps.length : Int) b.steps.length = 0
  ·rw [if_pos h2]
   have := z2.1 h2
   by_cases h3 : cmpL a.steps b.steps = 0
   ·rw [if_pos h3]
    constructor
    ·intro h; simp at h
    ·rintro (h | ⟨_, h | ⟨_, h⟩⟩) <;> omega
   ·rw [if_neg h3]
    constructor
    ·intro h; exact .inr ⟨by omega, .inr ⟨by omega, h⟩⟩
    ·rintro (h | ⟨_, h | ⟨_, h⟩⟩) <;> omega
  ·rw [if_neg h2, e2]
   have h3 : ¬ ((a.steps.length : Int) = b.steps.length) := fun e => h2 (z2.2 e)
   constructor
   ·intro h; exact .inr ⟨by omega, .inl (by omega)⟩
   ·rintro (h | ⟨_, h | ⟨_, h⟩⟩) <;> omega
 ·rw [if_neg h1, e1]
  have h3 : ¬ (a.time = b.time) := fun e => h1 (z1.2 e)
  constructor
  ·intro h; exact .inl h
  ·rintro (h | ⟨_, _⟩) <;> omega

theorem order_zero (a b : Wy) : order a b = 0 ↔ a = b := by
 constructor
 ·intro h
  have h1 : ¬ Lt a b := by unfold Lt; omega
  have h2 : ¬ Lt b a := by unfold Lt; rw [order_flip]; omega
  rw [Lt_iff] at h1 h2
  have ht : a.time = b.time := by
   rcases Int.lt_trichotomy a.time b.time with h | h | h
   ·exact absurd (.inl h) h1
   ·exact h
   ·exact absurd (.inl h) h2
  have hl : a.steps.length = b.steps.length := by
   rcases Nat.lt_trichotomy a.steps.length b.steps.length with h | h | h
   ·exact absurd (.inr ⟨ht, .inl h⟩) h1
   ·exact h
   ·exact absurd (.inr ⟨ht.symm, .inl h⟩) h2
  have hs : cmpL a.steps b.steps = 0 := by
   have h3 : ¬ cmpL a.steps b.steps < 0 := fun h => h1 (.inr ⟨ht, .inr ⟨hl, h⟩⟩)
   have h4 : ¬ cmpL b.steps a.steps < 0 := fun h => h2 (.inr ⟨ht.symm, .inr ⟨hl.symm, h⟩⟩)
   rw [cmpL_flip] at h4
   omega
  cases a; cases b
  simp only [Wy.mk.injEq]
  exact ⟨ht, (cmpL_zero _ _).1 hs⟩
 ·rintro rfl
  unfold order
  have h1 := (cmpI_zero a.time a.time).2 rfl
  have h2 := (cmpI_zero (a.steps.length : Int) a.steps.length).2 rfl
  have h3 := (cmpL_zero a.steps a.steps).2 rfl
  simp [orI, h1, h2, h3]

theorem Lt.trans {a b c : Wy} (h1 : Lt a b) (h2 : Lt b c) : Lt a c := by
 rw [Lt_iff] at h1 h2 ⊢
 rcases h1 with h1 | ⟨h1, h1' | ⟨h1', h1''⟩⟩ <;> rcases h2 with h2 | ⟨h2, h2' | ⟨h2', h2''⟩⟩
 ·exact .inl (by omega)
 ·exact .inl (by omega)
 ·exact .inl (by omega)
 ·exact .inl (by omega)
 ·exact .inr ⟨by omega, .inl (by omega)⟩
 ·exact .inr ⟨by omega, .inl (by omega)⟩
 ·exact .inl (by omega)
 ·exact .inr ⟨by omega, .inl (by omega)⟩
 ·exact .inr ⟨by omega, .inr ⟨by omega, cmpL_trans _ _ _ h1'' h2''⟩⟩

theorem Le_iff (a b : Wy) : Le a b ↔ Lt a b ∨ a = b := by
 unfold Le Lt
 rw [← order_zero a b]
 omega
theorem Le.refl (a : Wy) : Le a a := (Le_iff a a).2 (.inr rfl)
theorem Le.trans {a b c : Wy} (h1 : Le a b) (h2 : Le b c) : Le a c := by
 rw [Le_iff] at h1 h2 ⊢
 rcases h1 with h1 | rfl
 ·rcases h2 with h2 | rfl
  ·exact .inl (h1.trans h2)
  ·exact .inl h1
 ·exact h2
theorem Lt.le {a b : Wy} (h : Lt a b) : Le a b := (Le_iff a b).2 (.inl h)
theorem not_Lt {a b : Wy} : ¬ Lt a b ↔ Le b a := by unfold Lt Le; rw [order_flip a b]; omega
theorem Le.time {a b : Wy} (h : Le a b) : a.time ≤ b.time := by
 rcases (Le_iff a b).1 h with h | rfl
 ·rcases (Lt_iff a b).1 h with h | ⟨h, _⟩ <;> omega
 ·omega

/-- A way made longer by a step. -/
def ext (f : Flow) (w : Wy) (u : Int) : Wy := ⟨w.time + (stepD f u).min + f.moveMin, w.steps ++ [u]⟩
theorem ext_lt {f : Flow} (hval : valid f = true) {u : Int} (hu : InR f u) (w : Wy) : Lt w (ext f w u) := by
 rw [Lt_iff]
 left
 have h1 := valid_step hval hu.1 hu.2
 unfold rightStep at h1
 simp only [Bool.and_eq_true, decide_eq_true_eq] at h1
 have h2 : 0 ≤ f.moveMin := by
  unfold valid rightMoves at hval
  simp only [Bool.and_eq_true, decide_eq_true_eq] at hval
  omega
 simp only [ext]
 omega

/-- A way from a step to another one. -/
inductive IsWay (f : Flow) (a : Int) : Int → Wy → Prop where
 | base {v : Int} : v ∈ afterL (stepD f a) → IsWay f a v ⟨f.moveMin, []⟩
 | step {u v : Int} {w : Wy} : IsWay f a u w → v ∈ afterL (stepD f u) → IsWay f a v (ext f w u)

end Go.Proofs.YtnggomfbgmlkhaaGreatDoor

/- The quickest ways are what they are called, in plain Lean: no program here. -/
namespace Go.Proofs.YtnggomfbgmlkhaaGreatDoor

/-- The way to a step that a list of ways holds. -/
def og (out : List (Option Wy)) (v : Int) : Option Wy := out.getD v.toNat none

theorem better_iff (w : Wy) (o : Option Wy) : better w o = true ↔ ∀ x, o = some x → Lt w x := by
 cases o with
 | none => simp [better]
 | some x => simp [better, Lt]

theorem og_set {out : List (Option Wy)} {n v : Int} (hn : 0 ≤ n ∧ n < out.length) (hv : 0 ≤ v) (w : Option Wy) : og (out.set n.toNat w) v = if v = n then w else og out v := by
 unfold og
 simp only [List.getD_eq_getElem?_getD, List.getElem?_set]
 by_cases h : v = n
 ·subst h
  have : v.toNat < out.length := by omega
  simp [this]
 ·have : ¬ n.toNat = v.toNat := by omega
  simp [h, this]

theorem og_addStep {out : List (Option Wy)} {n v : Int} (hn : 0 ≤ n ∧ n < out.length) (hv : 0 ≤ v) (w : Wy) :
  og (addStep w out n) v = if v = n ∧ better w (og out v) = true then some w else og out v := by
 unfold addStep
 by_cases h : v = n
 ·subst h
  by_cases hb : better w (out.getD v.toNat none) = true
  ·rw [if_pos hb, og_set hn hv, if_pos rfl, if_pos ⟨rfl, hb⟩]
  ·rw [if_neg hb, if_neg (fun h => hb h.2)]
 ·have e : (if v = n ∧ better w (og out v) = true then some w else og out v) = og out v := if_neg (fun h' => h h'.1)
  rw [e]
  split
  ·rw [og_set hn hv, if_neg h]
  ·rfl

theorem og_addAll (w : Wy) {v : Int} (hv : 0 ≤ v) : ∀ (l : List Int) (out : List (Option Wy)), (∀ m ∈ l, 0 ≤ m ∧ m < out.length) →
  og (addAll w out l) v = if v ∈ l ∧ better w (og out v) = true then some w else og out v := by
 intro l
 induction l with
 | nil => intro out _; simp [addAll]
 | cons n r ih =>
  intro out hr
  have hn := hr n (by simp)
  have e : addAll w out (n :: r) = addAll w (addStep w out n) r := by unfold addAll; rw [List.foldl_cons]
  rw [e, ih _ (fun m hm => by rw [addStep_len]; exact hr m (by simp [hm])), og_addStep hn hv]
  by_cases h : v = n ∧ better w (og out v) = true
  ·rw [if_pos h]
   have hns : ¬ better w (some w) = true := by
    rw [better_iff]; intro h
    have := h w rfl
    rw [Lt_iff] at this
    rcases this with h | ⟨_, h | ⟨_, h⟩⟩
    ·omega
    ·omega
    ·rw [(cmpL_zero _ _).2 rfl] at h; omega
   rw [if_neg (fun h' => hns h'.2), if_pos ⟨by simp [h.1], h.2⟩]
  ·rw [if_neg h]
   by_cases hb : better w (og out v) = true
   ·have hvn : v ≠ n := fun e => h ⟨e, hb⟩
    simp [hb, hvn]
   ·simp [hb]

/-- What is picked is least. -/
theorem pickTo_least (out : List (Option Wy)) (done : List Bool) (k : Nat) :
  (pickTo out done k < 0 → ∀ j : Nat, j < k → out.getD j none = none ∨ done.getD j true = true) ∧
  (0 ≤ pickTo out done k → ∀ w, out.getD (pickTo out done k).toNat none = some w → ∀ j : Nat, j < k → ∀ w', out.getD j none = some w' → done.getD j true = false → Le w w') := by
 induction k with
 | zero => exact ⟨fun _ j hj => by omega, fun _ w _ j hj => by omega⟩
 | succ k ih =>
  obtain ⟨ih1, ih2⟩ := ih
  have hok := pickTo_ok out done k
  rw [pickTo_succ]
  unfold pickStep
  cases ho : out.getD k none with
  | none =>
   simp only
   refine ⟨fun h j hj => ?_, fun h w hw j hj w' hw' hd => ?_⟩
   ·by_cases e : j = k
    ·subst e; exact .inl ho
    ·exact ih1 h j (by omega)
   ·by_cases e : j = k
    ·subst e; rw [ho] at hw'; cases hw'
    ·exact ih2 h w hw j (by omega) w' hw' hd
  | some wk =>
   simp only
   by_cases hd : done.getD k true = true
   ·rw [if_pos hd]
    refine ⟨fun h j hj => ?_, fun h w hw j hj w' hw' hdj => ?_⟩
    ·by_cases e : j = k
     ·subst e; exact .inr hd
     ·exact ih1 h j (by omega)
    ·by_cases e : j = k
     ·subst e; rw [hd] at hdj; cases hdj
     ·exact ih2 h w hw j (by omega) w' hw' hdj
   ·rw [if_neg hd]
    by_cases hneg : pickTo out done k < 0
    ·rw [if_pos hneg]
     refine ⟨fun h => absurd h (by omega), fun _ w hw j hj w' hw' hdj => ?_⟩
     rw [show ((k : Int)).toNat = k from by omega, ho] at hw
     obtain rfl := Option.some.inj hw
     by_cases e : j = k
     ·subst e
      rw [ho] at hw'
      obtain rfl := Option.some.inj hw'
      exact Le.refl _
     ·rcases ih1 hneg j (by omega) with h | h
      ·rw [h] at hw'; cases hw'
      ·rw [h] at hdj; cases hdj
    ·rw [if_neg hneg]
     rcases hok with h | ⟨h0, h1, ⟨wb, hwb⟩, h3⟩
     ·omega
     by_cases hb : better wk (out.getD (pickTo out done k).toNat none) = true
     ·rw [if_pos hb]
      have hlt := (better_iff _ _).1 hb wb hwb
      refine ⟨fun h => absurd h (by omega), fun _ w hw j hj w' hw' hdj => ?_⟩
      rw [show ((k : Int)).toNat = k from by omega, ho] at hw
      obtain rfl := Option.some.inj hw
      by_cases e : j = k
      ·subst e
       rw [ho] at hw'
       obtain rfl := Option.some.inj hw'
       exact Le.refl _
      ·exact hlt.le.trans (ih2 h0 wb hwb j (by omega) w' hw' hdj)
     ·rw [if_neg hb]
      have hle : Le wb wk := by
       rw [← not_Lt]
       intro hlt
       exact hb ((better_iff _ _).2 fun x hx => by rw [hwb] at hx; obtain rfl := Option.some.inj hx; exact hlt)
      refine ⟨fun h => absurd h hneg, fun _ w hw j hj w' hw' hdj => ?_⟩
      rw [hwb] at hw
      obtain rfl := Option.some.inj hw
      by_cases e : j = k
      ·subst e
       rw [ho] at hw'
       obtain rfl := Option.some.inj hw'
       exact hle
      ·exact ih2 h0 wb hwb j (by omega) w' hw' hdj

theorem pickMin_eq (out : List (Option Wy)) (done : List Bool) : pickMin out done = pickTo out done out.length := rfl

/-- What holds between the rounds. -/
structure WInv (f : Flow) (a : Int) (out : List (Option Wy)) (done : List Bool) : Prop where
 lo : out.length = f.steps.length
 ld : done.length = f.steps.length
 way : ∀ v w, InR f v → og out v = some w → IsWay f a v w
 base : ∀ v ∈ afterL (stepD f a), ∃ w, og out v = some w ∧ Le w ⟨f.moveMin, []⟩
 cl : ∀ u, InR f u → isIn done u → ∃ w, og out u = some w ∧ ∀ v ∈ afterL (stepD f u), ∃ w', og out v = some w' ∧ Le w' (ext f w u)
 ord : ∀ u v w w', InR f u → InR f v → isIn done u → ¬ isIn done v → og out u = some w → og out v = some w' → Le w w'
 len : ∀ v w, InR f v → og out v = some w → w.steps.length + done.count false ≤ f.steps.length
 tm : ∀ v w, InR f v → og out v = some w → 0 ≤ w.time ∧ w.time ≤ 20000 * ((w.steps.length : Int) + 1)

theorem valid_mv {f : Flow} (h : valid f = true) : 0 ≤ f.moveMin ∧ f.moveMin ≤ 10000 := by
 unfold valid rightMoves at h
 simp only [Bool.and_eq_true, decide_eq_true_eq] at h
 omega
theorem valid_n {f : Flow} (h : valid f = true) : 1 ≤ f.steps.length ∧ f.steps.length ≤ 40 := by
 unfold valid within at h
 simp only [Bool.and_eq_true, decide_eq_true_eq] at h
 omega
theorem valid_min {f : Flow} (h : valid f = true) {u : Int} (hu : InR f u) : 1 ≤ (stepD f u).min ∧ (stepD f u).min ≤ 10000 := by
 have h1 := valid_step h hu.1 hu.2
 unfold rightStep at h1
 simp only [Bool.and_eq_true, decide_eq_true_eq] at h1
 omega

theorem WInv.start {f : Flow} (hval : valid f = true) {a : Int} (ha : InR f a) : WInv f a (addAll ⟨f.moveMin, []⟩ (List.replicate f.steps.length none) (afterL (stepD f a))) (List.replicate f.steps.length false) := by
 have hr := after_range hval ha.1 ha.2
 have hog : ∀ v, InR f v → og (addAll ⟨f.moveMin, []⟩ (List.replicate f.steps.length none) (afterL (stepD f a))) v = if v ∈ afterL (stepD f a) then some ⟨f.moveMin, []⟩ else none := by
  intro v hv
  rw [og_addAll _ hv.1 _ _ (by intro m hm; simpa using hr m hm)]
  have : og (List.replicate f.steps.length none) v = none := by
   unfold og
   rw [List.getD_eq_getElem?_getD, List.getElem?_replicate]
   split <;> rfl
  rw [this]
  simp [better]
 have hmv := valid_mv hval
 refine ⟨by rw [addAll_len]; simp, by simp, fun v w hv h => ?_, fun v hv => ?_, fun u _ h => absurd h (isIn_replicate _ _), fun u _ _ _ _ _ h => absurd h (isIn_replicate _ _), fun v w hv h => ?_, fun v w hv h => ?_⟩
 ·rw [hog v hv] at h
  split at h
  ·obtain rfl := Option.some.inj h; exact .base (by assumption)
  ·cases h
 ·have hv' := hr v hv
  exact ⟨_, by rw [hog v hv', if_pos hv], Le.refl _⟩
 ·rw [hog v hv] at h
  split at h
  ·obtain rfl := Option.some.inj h; simp
  ·cases h
 ·rw [hog v hv] at h
  split at h
  ·obtain rfl := Option.some.inj h; simp; omega
  ·cases h

theorem WInv.next {f : Flow} (hval : valid f = true) {a : Int} (ha : InR f a) {out : List (Option Wy)} {done : List Bool} (h : WInv f a out done) {at_ : Int} (hat : InR f at_) {w : Wy} (how : og out at_ = some w) (hnd : ¬ isIn done at_)
  (hleast : ∀ v w', InR f v → ¬ isIn done v → og out v = some w' → Le w w') :
  WInv f a (addAll (ext f w at_) out (afterL (stepD f at_))) (done.set at_.toNat true) := by
 have hr := after_range hval hat.1 hat.2
 have hlt := ext_lt hval hat w
 have hog : ∀ v, InR f v → og (addAll (ext f w at_) out (afterL (stepD f at_))) v = if v ∈ afterL (stepD f at_) ∧ better (ext f w at_) (og out v) = true then some (ext f w at_) else og out v :=
  fun v hv => og_addAll _ hv.1 _ _ (by intro m hm; rw [h.lo]; exact hr m hm)
 have hin : ∀ v, InR f v → (isIn (done.set at_.toNat true) v ↔ v = at_ ∨ isIn done v) := fun v hv => isIn_set h.ld hat hv
 -- every way there only becomes better
 have hle : ∀ v x, InR f v → og out v = some x → ∃ y, og (addAll (ext f w at_) out (afterL (stepD f at_))) v = some y ∧ Le y x := by
  intro v x hv hx
  rw [hog v hv]
  split
  ·rename_i hc
   exact ⟨_, rfl, ((better_iff _ _).1 hc.2 x hx).le⟩
  ·exact ⟨x, hx, Le.refl _⟩
 -- what is done with stays
 have hkeep : ∀ u x, InR f u → (u = at_ ∨ isIn done u) → og out u = some x → og (addAll (ext f w at_) out (afterL (stepD f at_))) u = some x ∧ Le x w := by
  intro u x hu hd hx
  have hxw : Le x w := by
   rcases hd with rfl | hd
   ·rw [how] at hx; obtain rfl := Option.some.inj hx; exact Le.refl _
   ·exact h.ord u at_ x w hu hat hd hnd hx how
  refine ⟨?_, hxw⟩
  rw [hog u hu, if_neg]
  ·exact hx
  ·rintro ⟨_, hb⟩
   have := (better_iff _ _).1 hb x hx
   exact not_Lt.2 (hxw.trans hlt.le) this
 have hfd : done[at_.toNat]? = some false := by
  have hl : at_.toNat < done.length := by have := h.ld; have := hat.1; have := hat.2; omega
  unfold isIn at hnd
  rw [List.getD_eq_getElem?_getD, List.getElem?_eq_getElem hl] at hnd
  rw [List.getElem?_eq_getElem hl]
  simpa using hnd
 have hcs := count_set_lt hfd
 have hwl := h.len at_ w hat how
 have hwt := h.tm at_ w hat how
 have hmn := valid_min hval hat
 have hmv := valid_mv hval
 refine ⟨by rw [addAll_len, h.lo], by simpa using h.ld, fun v x hv hx => ?_, fun v hv => ?_, fun u hu hd => ?_, fun u v x x' hu hv hdu hdv hx hx' => ?_, fun v x hv hx => ?_, fun v x hv hx => ?_⟩
 ·rw [hog v hv] at hx
  split at hx
  ·rename_i hc
   obtain rfl := Option.some.inj hx
   exact .step (h.way at_ w hat how) hc.1
  ·exact h.way v x hv hx
 ·have hva : InR f v := after_range hval ha.1 ha.2 v hv
  obtain ⟨x, hx, hxl⟩ := h.base v hv
  obtain ⟨y, hy, hyl⟩ := hle v x hva hx
  exact ⟨y, hy, hyl.trans hxl⟩
 ·have hd := (hin u hu).1 hd
  by_cases hua : u = at_
  ·subst hua
   obtain ⟨h1, _⟩ := hkeep u w hu (.inl rfl) how
   refine ⟨w, h1, fun v hv => ?_⟩
   have hvr : InR f v := hr v hv
   rw [hog v hvr]
   by_cases hb : better (ext f w u) (og out v) = true
   ·exact ⟨_, by rw [if_pos ⟨hv, hb⟩], Le.refl _⟩
   ·rw [if_neg (fun h => hb h.2)]
    cases hov : og out v with
    | none => rw [hov] at hb; simp [better] at hb
    | some x =>
     refine ⟨x, rfl, ?_⟩
     rw [← not_Lt]
     intro hl
     exact hb ((better_iff _ _).2 fun y hy => by rw [hov] at hy; obtain rfl := Option.some.inj hy; exact hl)
  ·have hdu := hd.resolve_left hua
   obtain ⟨x, hx, hcl⟩ := h.cl u hu hdu
   obtain ⟨h1, _⟩ := hkeep u x hu (.inr hdu) hx
   refine ⟨x, h1, fun v hv => ?_⟩
   obtain ⟨y, hy, hyl⟩ := hcl v hv
   obtain ⟨z, hz, hzl⟩ := hle v y (after_range hval hu.1 hu.2 v hv) hy
   exact ⟨z, hz, hzl.trans hyl⟩
 ·have hdu := (hin u hu).1 hdu
  have hdv : ¬ isIn done v := fun e => hdv ((hin v hv).2 (.inr e))
  have hxu : ∃ x0, og out u = some x0 := by
   rcases hdu with rfl | hdu
   ·exact ⟨w, how⟩
   ·obtain ⟨x0, h0, _⟩ := h.cl u hu hdu; exact ⟨x0, h0⟩
  obtain ⟨x0, hx0⟩ := hxu
  obtain ⟨h1, h2⟩ := hkeep u x0 hu hdu hx0
  rw [h1] at hx
  obtain rfl := Option.some.inj hx
  rw [hog v hv] at hx'
  split at hx'
  ·obtain rfl := Option.some.inj hx'
   exact h2.trans hlt.le
  ·exact h2.trans (hleast v x' hv hdv hx')
 ·rw [hog v hv] at hx
  split at hx
  ·obtain rfl := Option.some.inj hx
   simp only [ext, List.length_append, List.length_cons, List.length_nil]
   omega
  ·have := h.len v x hv hx; omega
 ·rw [hog v hv] at hx
  split at hx
  ·obtain rfl := Option.some.inj hx
   simp only [ext, List.length_append, List.length_cons, List.length_nil]
   omega
  ·exact h.tm v x hv hx

theorem waysGo_inv {f : Flow} (hval : valid f = true) {a : Int} (ha : InR f a) : ∀ (k : Nat) (out : List (Option Wy)) (done : List Bool), WInv f a out done → done.count false < k →
  ∃ done', WInv f a (waysGo f k out done) done' ∧ ∀ v, InR f v → og (waysGo f k out done) v ≠ none → isIn done' v := by
 intro k
 induction k with
 | zero => intro out done _ hc; omega
 | succ k ih =>
  intro out done h hc
  rw [waysGo]
  have hl := pickTo_least out done out.length
  have hok := pickTo_ok out done out.length
  rw [← pickMin_eq] at hl hok
  by_cases hneg : pickMin out done < 0
  ·rw [if_pos hneg]
   refine ⟨done, h, fun v hv hne => ?_⟩
   rcases hl.1 hneg v.toNat (by have := h.lo; have := hv.1; have := hv.2; omega) with h1 | h1
   ·exact absurd h1 hne
   ·exact (isIn_getD h.ld hv true).1 h1
  ·rw [if_neg hneg]
   rcases hok with h1 | ⟨h0, h1, ⟨w, hw⟩, h3⟩
   ·omega
   rw [hw]
   simp only
   have hat : InR f (pickMin out done) := ⟨h0, by have := h.lo; omega⟩
   have hnd : ¬ isIn done (pickMin out done) := fun e => by
    have := (isIn_getD h.ld hat true).2 e
    rw [h3] at this; cases this
   have hn := h.next hval ha hat hw hnd (fun v w' hv hdv hw' => hl.2 h0 w hw v.toNat (by have := h.lo; have := hv.1; have := hv.2; omega) w' hw' (by
    cases hx : done.getD v.toNat true with
    | false => rfl
    | true => exact absurd ((isIn_getD h.ld hv true).1 hx) hdv))
   have hfd : done[(pickMin out done).toNat]? = some false := by
    have hl : (pickMin out done).toNat < done.length := by have := h.ld; have := hat.1; have := hat.2; omega
    rw [List.getD_eq_getElem?_getD, List.getElem?_eq_getElem hl] at h3
    rw [List.getElem?_eq_getElem hl]
    exact congrArg some h3
   have hcs := count_set_lt hfd
   exact ih _ _ hn (by omega)

theorem ways_inv {f : Flow} (hval : valid f = true) {a : Int} (ha : InR f a) : ∃ done', WInv f a (ways f a) done' ∧ ∀ v, InR f v → og (ways f a) v ≠ none → isIn done' v :=
 waysGo_inv hval ha _ _ _ (WInv.start hval ha) (by simp)

theorem ways_length {f : Flow} (hval : valid f = true) {a : Int} (ha : InR f a) : (ways f a).length = f.steps.length := by
 obtain ⟨_, h, _⟩ := ways_inv hval ha; exact h.lo

theorem ways_bound {f : Flow} (hval : valid f = true) {a : Int} (ha : InR f a) {v : Int} (hv : InR f v) {w : Wy} (h : og (ways f a) v = some w) : (0 ≤ w.time ∧ w.time ≤ 1000000) ∧ w.steps.length ≤ f.steps.length := by
 obtain ⟨_, hi, _⟩ := ways_inv hval ha
 have h1 := hi.len v w hv h
 have h2 := hi.tm v w hv h
 have h3 := valid_n hval
 omega
end Go.Proofs.YtnggomfbgmlkhaaGreatDoor

/- What Way, Quickest, Finish and Check answer, in plain Lean. -/
namespace Go.Proofs.YtnggomfbgmlkhaaGreatDoor

def wayM (f : Flow) (a b : Int) : List Int × Bool := if given f [a, b] then (match og (ways f a) b with | none => ([], false) | some w => (w.steps, true)) else ([], false)
def quickest (f : Flow) (a b : Int) : Int × Bool := if given f [a, b] then (match og (ways f a) b with | none => (0, false) | some w => (w.time, true)) else (0, false)

def finStep (f : Flow) (out : List (Option Wy)) (acc : Int × Bool) (n : Nat) : Int × Bool :=
 match out.getD n none with
 | none => acc
 | some w => if isEnd (stepD f n) = true then (if acc.2 = false ∨ w.time + (stepD f n).min < acc.1 then (w.time + (stepD f n).min, true) else acc) else acc
def finTo (f : Flow) (out : List (Option Wy)) (k : Nat) : Int × Bool := (List.range k).foldl (finStep f out) (0, false)
theorem finTo_succ (f : Flow) (out : List (Option Wy)) (k : Nat) : finTo f out (k + 1) = finStep f out (finTo f out k) k := by
 unfold finTo; rw [List.range_succ, List.foldl_append]; rfl
def finish (f : Flow) (a : Int) : Int × Bool := if given f [a] then (if isEnd (stepD f a) then (0, true) else finTo f (ways f a) f.steps.length) else (0, false)

/-- An end can be reached from a step. -/
def alive (f : Flow) (n : Int) : Bool := (ends f).any fun e => (reached f n).getD e.toNat false
def deadL (f : Flow) (l : List Int) : Option Int := l.find? fun n => !alive f n
def bestStep (f : Flow) (best : List Int) (n : Int) : List Int :=
 if 0 < (cycle f (reached f 0) n).length ∧ (best = [] ∨ (cycle f (reached f 0) n).length < best.length) then cycle f (reached f 0) n else best
def bestL (f : Flow) (l : List Int) : List Int := l.foldl (bestStep f) []
def check (f : Flow) : Int × List Int :=
 match deadL f (reach f 0) with
 | some n => (1, [n])
 | none => if bestL f (reach f 0) = [] then (0, []) else (2, bestL f (reach f 0))
theorem bestL_snoc (f : Flow) (l : List Int) (n : Int) : bestL f (l ++ [n]) = bestStep f (bestL f l) n := by
 unfold bestL; rw [List.foldl_append]; rfl
end Go.Proofs.YtnggomfbgmlkhaaGreatDoor

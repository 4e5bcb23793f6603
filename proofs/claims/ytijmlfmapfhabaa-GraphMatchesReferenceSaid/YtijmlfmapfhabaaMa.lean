/- Flows, ways, cycles and times in plain Lean, and what holds of them. -/


/- Flows and what is said of them, in plain Lean: no program here. -/
namespace Go.Proofs.Ytijmlfmapfhabaa

structure Step where
  recipe : Int
  tools : List Int
  min : Int
  max : Int
  next : List Int
  back : Int
  limit : Int

structure Window where
  src : Int
  dst : Int
  limit : Int

structure Flow where
  moveMin : Int
  moveMax : Int
  steps : List Step
  windows : List Window

def within (n lo hi : Int) : Bool := decide (lo ≤ n) && decide (n ≤ hi)

def ascGo (lo hi : Int) : Int → List Int → Bool
  | _, [] => true
  | p, n :: r => within n lo hi && decide (p < n) && ascGo lo hi n r
def ascending (l : List Int) (lo hi : Int) : Bool :=
  match l with
  | [] => true
  | n :: r => within n lo hi && ascGo lo hi n r

def rightStep (s : Step) (n : Int) : Bool :=
  ((s.back == -1 && s.limit == 0) || (within s.back 0 (n - 1) && within s.limit 1 9)) && (within s.tools.length 1 8 && decide ((s.next.length : Int) ≤ 4)) &&
  within s.recipe 1 1000000 && ascending s.tools 0 59 && ascending s.next 0 (n - 1) && decide (1 ≤ s.min) && decide (s.min ≤ s.max) && decide (s.max ≤ 10000)

def rightWindow (w : Window) (n : Int) : Bool :=
  within w.src 0 (n - 1) && within w.dst 0 (n - 1) && (w.src != w.dst) && within w.limit 0 1000000

def winLess (v w : Window) : Bool := decide (v.src < w.src) || (v.src == w.src && decide (v.dst < w.dst))
def follows (l : List Window) (w : Window) : Bool :=
  match l.getLast? with
  | none => true
  | some v => winLess v w

def rightMoves (f : Flow) : Bool := decide (0 ≤ f.moveMin) && decide (f.moveMin ≤ f.moveMax) && decide (f.moveMax ≤ 10000)

def winsOk (n : Int) : List Window → List Window → Bool
  | _, [] => true
  | pre, w :: r => rightWindow w n && follows pre w && winsOk n (pre ++ [w]) r

def valid (f : Flow) : Bool :=
  rightMoves f && within f.steps.length 1 40 && decide ((f.windows.length : Int) ≤ 20) && f.steps.all (fun s => rightStep s f.steps.length) && winsOk f.steps.length [] f.windows

end Go.Proofs.Ytijmlfmapfhabaa

/- What the functions of package graph compute, in plain Lean: no program here. -/
namespace Go.Proofs.Ytijmlfmapfhabaa

def badStep (f : Flow) (n : Int) : Bool := decide (n < 0) || decide ((f.steps.length : Int) ≤ n)
def given (f : Flow) (l : List Int) : Bool := valid f && !l.any (badStep f)

def afterGo : Int → List Int → List Int
  | back, [] => if 0 ≤ back then [back] else []
  | back, n :: r => (if 0 ≤ back ∧ back < n then [back] else []) ++ n :: afterGo (if back ≤ n then -1 else back) r
def afterL (s : Step) : List Int := afterGo s.back s.next

def isEnd (s : Step) : Bool := (s.next.length : Int) == 0

def stepD (f : Flow) (n : Int) : Step := f.steps.getD n.toNat ⟨0, [], 0, 0, [], 0, 0⟩
def follow (f : Flow) (n : Int) : List Int := if given f [n] then afterL (stepD f n) else []

theorem afterGo_len (back : Int) (l : List Int) : (afterGo back l).length ≤ 2 * l.length + 1 := by
  induction l generalizing back with
  | nil => unfold afterGo; split <;> simp
  | cons n r ih =>
    unfold afterGo
    have := ih (if back ≤ n then -1 else back)
    simp only [List.length_append, List.length_cons]
    split <;> simp <;> omega

theorem valid_step {f : Flow} (h : valid f = true) {n : Int} (h0 : 0 ≤ n) (h1 : n < f.steps.length) : rightStep (stepD f n) f.steps.length = true := by
  unfold valid at h
  simp only [Bool.and_eq_true, List.all_eq_true] at h
  refine h.1.2 _ ?_
  unfold stepD
  rw [List.getD_eq_getElem?_getD, List.getElem?_eq_getElem (by omega)]
  exact List.getElem_mem _

theorem rightStep_next {s : Step} {n : Int} (h : rightStep s n = true) : s.next.length ≤ 4 := by
  unfold rightStep at h
  simp only [Bool.and_eq_true, decide_eq_true_eq] at h
  omega

end Go.Proofs.Ytijmlfmapfhabaa

/- Reaching, in plain Lean. -/
namespace Go.Proofs.Ytijmlfmapfhabaa

def visit (f : Flow) : Nat → List Bool → Int → List Bool
  | 0, out, _ => out
  | k + 1, out, n => (afterL (stepD f n)).foldl (fun o m => if o.getD m.toNat true then o else visit f k o m) (out.set n.toNat true)

def visitAll (f : Flow) (k : Nat) (o : List Bool) (l : List Int) : List Bool := l.foldl (fun o m => if o.getD m.toNat true then o else visit f k o m) o

theorem visit_succ (f : Flow) (k : Nat) (out : List Bool) (n : Int) : visit f (k + 1) out n = visitAll f k (out.set n.toNat true) (afterL (stepD f n)) := rfl

theorem visitAll_snoc (f : Flow) (k : Nat) (o : List Bool) (pre : List Int) (x : Int) :
    visitAll f k o (pre ++ [x]) = if (visitAll f k o pre).getD x.toNat true = true then visitAll f k o pre else visit f k (visitAll f k o pre) x := by
  unfold visitAll
  rw [List.foldl_append, List.foldl_cons, List.foldl_nil]

def reached (f : Flow) (n : Int) : List Bool := visit f f.steps.length (List.replicate f.steps.length false) n

def trues : Nat → List Bool → List Int
  | _, [] => []
  | k, b :: r => (if b then [(k : Int)] else []) ++ trues (k + 1) r
def reach (f : Flow) (n : Int) : List Int := if given f [n] then trues 0 (reached f n) else []

def ends (f : Flow) : List Int := (reach f 0).filter fun n => isEnd (stepD f n)

theorem visitAll_keeps (f : Flow) (k : Nat) (hv : ∀ o n, (visit f k o n).length = o.length ∧ (visit f k o n).count false ≤ o.count false) (l : List Int) (o : List Bool) :
    (visitAll f k o l).length = o.length ∧ (visitAll f k o l).count false ≤ o.count false := by
  induction l generalizing o with
  | nil => exact ⟨rfl, Nat.le_refl _⟩
  | cons m r ih =>
    unfold visitAll at ih ⊢
    rw [List.foldl_cons]
    by_cases h : o.getD m.toNat true = true
    · rw [if_pos h]; exact ih o
    · rw [if_neg h]
      have h1 := ih (visit f k o m)
      have h2 := hv o m
      exact ⟨h1.1.trans h2.1, Nat.le_trans h1.2 h2.2⟩

theorem count_set_true (o : List Bool) (i : Nat) : (o.set i true).count false ≤ o.count false := by
  by_cases h : i < o.length
  · rw [List.count_set h]; simp
  · rw [List.set_eq_of_length_le (by omega)]; exact Nat.le_refl _

theorem visit_keeps (f : Flow) (k : Nat) : ∀ o n, (visit f k o n).length = o.length ∧ (visit f k o n).count false ≤ o.count false := by
  induction k with
  | zero => intro o n; exact ⟨rfl, Nat.le_refl _⟩
  | succ k ih =>
    intro o n
    rw [visit_succ]
    have h := visitAll_keeps f k ih (afterL (stepD f n)) (o.set n.toNat true)
    exact ⟨by rw [h.1]; simp, Nat.le_trans h.2 (count_set_true o _)⟩

theorem count_set_lt {o : List Bool} {i : Nat} (h : o[i]? = some false) : (o.set i true).count false + 1 = o.count false := by
  obtain ⟨hi, he⟩ := List.getElem?_eq_some_iff.1 h
  rw [List.count_set hi, he]
  have : 0 < o.count false := List.count_pos_iff.2 (List.mem_iff_getElem.2 ⟨i, hi, he⟩)
  simp; omega

theorem afterGo_mem {back : Int} {l : List Int} {m : Int} (h : m ∈ afterGo back l) : m ∈ l ∨ (m = back ∧ 0 ≤ back) := by
  induction l generalizing back with
  | nil =>
    unfold afterGo at h
    split at h
    · simp at h; exact .inr ⟨h, by assumption⟩
    · simp at h
  | cons n r ih =>
    unfold afterGo at h
    rw [List.mem_append] at h
    rcases h with h | h
    · split at h
      · simp at h; rename_i hc; exact .inr ⟨h, hc.1⟩
      · simp at h
    · rcases List.mem_cons.1 h with rfl | h
      · exact .inl (List.mem_cons_self)
      · rcases ih h with h | ⟨h1, h2⟩
        · exact .inl (List.mem_cons_of_mem _ h)
        · split at h1
          · rename_i hc; rw [if_pos hc] at h2; omega
          · rename_i hc; rw [if_neg hc] at h2; exact .inr ⟨h1, h2⟩

theorem ascGo_mem {lo hi p : Int} {l : List Int} (h : ascGo lo hi p l = true) : ∀ m ∈ l, lo ≤ m ∧ m ≤ hi ∧ p < m := by
  induction l generalizing p with
  | nil => simp
  | cons n r ih =>
    simp only [ascGo, within, Bool.and_eq_true, decide_eq_true_eq] at h
    intro m hm
    rcases List.mem_cons.1 hm with rfl | hm
    · omega
    · have := ih h.2 m hm; omega

theorem ascending_mem {lo hi : Int} {l : List Int} (h : ascending l lo hi = true) : ∀ m ∈ l, lo ≤ m ∧ m ≤ hi := by
  cases l with
  | nil => simp
  | cons n r =>
    simp only [ascending, within, Bool.and_eq_true, decide_eq_true_eq] at h
    intro m hm
    rcases List.mem_cons.1 hm with rfl | hm
    · omega
    · have := ascGo_mem h.2 m hm; omega

theorem right_next {s : Step} {n : Int} (h : rightStep s n = true) : ∀ m ∈ s.next, 0 ≤ m ∧ m < n := by
  unfold rightStep at h
  simp only [Bool.and_eq_true, decide_eq_true_eq] at h
  intro m hm
  have := ascending_mem h.1.1.1.2 m hm
  omega
theorem right_back {s : Step} {n : Int} (h : rightStep s n = true) : s.back < n ∨ s.back = -1 := by
  unfold rightStep within at h
  simp only [Bool.and_eq_true, decide_eq_true_eq, Bool.or_eq_true, beq_iff_eq] at h
  rcases h.1.1.1.1.1.1.1 with h | h <;> omega
theorem after_range {f : Flow} (h : valid f = true) {n : Int} (h0 : 0 ≤ n) (h1 : n < f.steps.length) : ∀ m ∈ afterL (stepD f n), 0 ≤ m ∧ m < f.steps.length := by
  intro m hm
  have hr := valid_step h h0 h1
  rcases afterGo_mem hm with h2 | ⟨rfl, h2⟩
  · exact right_next hr m h2
  · rcases right_back hr with h3 | h3 <;> omega

end Go.Proofs.Ytijmlfmapfhabaa

/- The search for a shortest cycle, in plain Lean. -/
namespace Go.Proofs.Ytijmlfmapfhabaa

def lastD (l : List Int) : Int := l.getLastD 0

def cycScan (live : List Bool) (first : Int) (l : List Int) : List Int → List (List Int) → List Bool → Option (List (List Int) × List Bool)
  | [], q, seen => some (q, seen)
  | n :: r, q, seen =>
    if n = first then none
    else if first < n ∧ live.getD n.toNat false = true ∧ seen.getD n.toNat true = false then cycScan live first l r (q ++ [l ++ [n]]) (seen.set n.toNat true)
    else cycScan live first l r q seen

def cycGo (f : Flow) (live : List Bool) (first : Int) : Nat → List (List Int) → List Bool → List Int
  | _, [], _ => []
  | 0, _ :: _, _ => []
  | k + 1, l :: rest, seen =>
    match cycScan live first l (stepD f (lastD l)).next rest seen with
    | none => l
    | some (q, seen') => cycGo f live first k q seen'

def cycle (f : Flow) (live : List Bool) (first : Int) : List Int := cycGo f live first (1 + f.steps.length) [[first]] (List.replicate f.steps.length false)

end Go.Proofs.Ytijmlfmapfhabaa

/- Ways and their order, in plain Lean. -/
namespace Go.Proofs.Ytijmlfmapfhabaa

def cmpI (a b : Int) : Int := if a < b then -1 else if b < a then 1 else 0
def cmpL : List Int → List Int → Int
  | [], [] => 0
  | [], _ :: _ => -1
  | _ :: _, [] => 1
  | a :: as, b :: bs => if cmpI a b = 0 then cmpL as bs else cmpI a b
def orI : List Int → Int
  | [] => 0
  | n :: r => if n = 0 then orI r else n

structure Wy where
  time : Int
  steps : List Int

def order (a b : Wy) : Int := orI [cmpI a.time b.time, cmpI a.steps.length b.steps.length, cmpL a.steps b.steps]

end Go.Proofs.Ytijmlfmapfhabaa

/- The quickest ways, in plain Lean. -/
namespace Go.Proofs.Ytijmlfmapfhabaa

def better (w : Wy) (o : Option Wy) : Bool := match o with
  | none => true
  | some x => decide (order w x < 0)
def addStep (w : Wy) (o : List (Option Wy)) (n : Int) : List (Option Wy) := if better w (o.getD n.toNat none) = true then o.set n.toNat (some w) else o
def addAll (w : Wy) (o : List (Option Wy)) (l : List Int) : List (Option Wy) := l.foldl (addStep w) o

theorem addStep_len (w : Wy) (o : List (Option Wy)) (n : Int) : (addStep w o n).length = o.length := by
  unfold addStep; split <;> simp
theorem addAll_len (w : Wy) (l : List Int) : ∀ o, (addAll w o l).length = o.length := by
  induction l with
  | nil => intro o; rfl
  | cons n r ih => intro o; unfold addAll at ih ⊢; rw [List.foldl_cons, ih, addStep_len]
theorem addAll_snoc (w : Wy) (o : List (Option Wy)) (l : List Int) (n : Int) : addAll w o (l ++ [n]) = addStep w (addAll w o l) n := by
  unfold addAll; rw [List.foldl_append]; rfl

def pickStep (out : List (Option Wy)) (done : List Bool) (best : Int) (n : Nat) : Int :=
  match out.getD n none with
  | none => best
  | some w => if done.getD n true = true then best else if best < 0 then n else if better w (out.getD best.toNat none) = true then n else best
def pickMin (out : List (Option Wy)) (done : List Bool) : Int := (List.range out.length).foldl (pickStep out done) (-1)

def waysGo (f : Flow) : Nat → List (Option Wy) → List Bool → List (Option Wy)
  | 0, out, _ => out
  | k + 1, out, done =>
    if pickMin out done < 0 then out else
    match out.getD (pickMin out done).toNat none with
    | none => out
    | some v => waysGo f k (addAll ⟨v.time + (stepD f (pickMin out done)).min + f.moveMin, v.steps ++ [pickMin out done]⟩ out (afterL (stepD f (pickMin out done)))) (done.set (pickMin out done).toNat true)

def ways (f : Flow) (start : Int) : List (Option Wy) :=
  waysGo f (f.steps.length + 1) (addAll ⟨f.moveMin, []⟩ (List.replicate f.steps.length none) (afterL (stepD f start))) (List.replicate f.steps.length false)

end Go.Proofs.Ytijmlfmapfhabaa

/- The quickest ways, in plain Lean: bounds. -/
namespace Go.Proofs.Ytijmlfmapfhabaa

/-- Every way of a list has some property. -/
def AllW (p : Wy → Prop) (out : List (Option Wy)) : Prop := ∀ w, some w ∈ out → p w
theorem AllW.add {p : Wy → Prop} {out : List (Option Wy)} (h : AllW p out) {w : Wy} (hw : p w) (n : Int) : AllW p (addStep w out n) := by
  intro x hx
  unfold addStep at hx
  split at hx
  · rcases List.mem_or_eq_of_mem_set hx with h1 | h1
    · exact h x h1
    · obtain rfl := Option.some.inj h1; exact hw
  · exact h x hx
theorem AllW.addAll {p : Wy → Prop} {w : Wy} (hw : p w) (l : List Int) : ∀ {out : List (Option Wy)}, AllW p out → AllW p (addAll w out l) := by
  induction l with
  | nil => exact fun h => h
  | cons n r ih => intro out h; exact ih (h.add hw n)

def pickTo (out : List (Option Wy)) (done : List Bool) (k : Nat) : Int := (List.range k).foldl (pickStep out done) (-1)
theorem pickTo_succ (out : List (Option Wy)) (done : List Bool) (k : Nat) : pickTo out done (k + 1) = pickStep out done (pickTo out done k) k := by
  unfold pickTo; rw [List.range_succ, List.foldl_append]; rfl
/-- The step that is picked has a way, and is not done. -/
theorem pickTo_ok (out : List (Option Wy)) (done : List Bool) (k : Nat) : pickTo out done k = -1 ∨ (0 ≤ pickTo out done k ∧ pickTo out done k < k ∧ (∃ w, out.getD (pickTo out done k).toNat none = some w) ∧ done.getD (pickTo out done k).toNat true = false) := by
  induction k with
  | zero => exact .inl rfl
  | succ k ih =>
    rw [pickTo_succ]
    unfold pickStep
    cases ho : out.getD k none with
    | none =>
      simp only
      rcases ih with h | ⟨h1, h2, h3⟩
      · exact .inl h
      · exact .inr ⟨h1, by omega, h3⟩
    | some w =>
      simp only
      have keep : pickTo out done k = -1 ∨ (0 ≤ pickTo out done k ∧ pickTo out done k < (k + 1 : Nat) ∧ (∃ w, out.getD (pickTo out done k).toNat none = some w) ∧ done.getD (pickTo out done k).toNat true = false) := by
        rcases ih with h | ⟨h1, h2, h3⟩
        · exact .inl h
        · exact .inr ⟨h1, by omega, h3⟩
      cases hd : done.getD k true with
      | true => simpa using keep
      | false =>
        have new : ((k : Int) = -1 ∨ (0 ≤ (k : Int) ∧ (k : Int) < (k + 1 : Nat) ∧ (∃ w, out.getD (k : Int).toNat none = some w) ∧ done.getD (k : Int).toNat true = false)) := .inr ⟨by omega, by omega, ⟨w, by simpa using ho⟩, by simpa using hd⟩
        simp only [Bool.false_eq_true, if_false]
        split
        · exact new
        · split
          · exact new
          · exact keep
end Go.Proofs.Ytijmlfmapfhabaa

/- Reaching: what the search marks, in plain Lean: no program here. -/
namespace Go.Proofs.Ytijmlfmapfhabaa

def isIn (o : List Bool) (m : Int) : Prop := o.getD m.toNat false = true
def InR (f : Flow) (m : Int) : Prop := 0 ≤ m ∧ m < f.steps.length

inductive Rch (f : Flow) : Int → Int → Prop where
  | refl (a : Int) : Rch f a a
  | step {a b c : Int} : Rch f a b → c ∈ afterL (stepD f b) → Rch f a c

theorem Rch.trans {f : Flow} {a b c : Int} (h : Rch f a b) (r : Rch f b c) : Rch f a c := by
  induction r with
  | refl => exact h
  | step _ h2 ih => exact .step ih h2
theorem Rch.head {f : Flow} {a b c : Int} (h : b ∈ afterL (stepD f a)) (r : Rch f b c) : Rch f a c := Rch.trans (.step (.refl a) h) r

theorem Rch.inR {f : Flow} (hval : valid f = true) {a b : Int} (h : Rch f a b) (ha : InR f a) : InR f b := by
  induction h with
  | refl => exact ha
  | step _ h2 ih => exact after_range hval ih.1 ih.2 _ h2

theorem isIn_getD {f : Flow} {o : List Bool} (hl : o.length = f.steps.length) {m : Int} (hm : InR f m) (b : Bool) : o.getD m.toNat b = true ↔ isIn o m := by
  unfold isIn
  have : m.toNat < o.length := by have := hm.1; have := hm.2; omega
  simp [List.getD_eq_getElem?_getD, List.getElem?_eq_getElem this]

theorem isIn_set {f : Flow} {o : List Bool} (hl : o.length = f.steps.length) {n m : Int} (hn : InR f n) (hm : InR f m) : isIn (o.set n.toNat true) m ↔ m = n ∨ isIn o m := by
  unfold isIn
  have h1 : m.toNat < o.length := by have := hm.1; have := hm.2; omega
  simp only [List.getD_eq_getElem?_getD, List.getElem?_set]
  by_cases h : n.toNat = m.toNat
  · have hmn : m = n := by have := hm.1; have := hn.1; omega
    subst hmn
    simp [h1]
  · have hmn : m ≠ n := fun e => h (by rw [e])
    simp [h, hmn]

/-- What a search leaves: nothing is unmarked; all that is new is reached from where it began, and closed. -/
structure Vis (f : Flow) (src : Int → Prop) (o o' : List Bool) : Prop where
  len : o'.length = o.length
  mono : ∀ m, InR f m → isIn o m → isIn o' m
  fresh : ∀ m, InR f m → isIn o' m → ¬ isIn o m → (∃ b, src b ∧ Rch f b m) ∧ ∀ c ∈ afterL (stepD f m), isIn o' c

theorem visitAll_vis (f : Flow) (hval : valid f = true) (k : Nat)
    (ih : ∀ out n, out.length = f.steps.length → InR f n → ¬ isIn out n → out.count false ≤ k → Vis f (· = n) out (visit f k out n) ∧ isIn (visit f k out n) n) :
    ∀ (l : List Int) (o : List Bool), o.length = f.steps.length → (∀ m ∈ l, InR f m) → o.count false ≤ k → Vis f (· ∈ l) o (visitAll f k o l) ∧ ∀ m ∈ l, isIn (visitAll f k o l) m := by
  intro l
  induction l with
  | nil => exact fun o _ _ _ => ⟨⟨rfl, fun _ _ h => h, fun m _ h1 h2 => absurd h1 h2⟩, by simp⟩
  | cons b r ihl =>
    intro o hl hr hc
    have hb := hr b (by simp)
    have hstep : visitAll f k o (b :: r) = visitAll f k (if o.getD b.toNat true = true then o else visit f k o b) r := by
      unfold visitAll; rw [List.foldl_cons]
    rw [hstep]
    by_cases hm : o.getD b.toNat true = true
    · rw [if_pos hm]
      have hbo := (isIn_getD hl hb true).1 hm
      obtain ⟨h1, h2⟩ := ihl o hl (fun m h => hr m (by simp [h])) hc
      refine ⟨⟨h1.len, h1.mono, fun m hmr h3 h4 => ?_⟩, fun m hm' => ?_⟩
      · obtain ⟨⟨s, h5, h6⟩, h7⟩ := h1.fresh m hmr h3 h4
        exact ⟨⟨s, by simp [h5], h6⟩, h7⟩
      · rcases List.mem_cons.1 hm' with rfl | h
        · exact h1.mono _ hb hbo
        · exact h2 m h
    · rw [if_neg hm]
      have hbo : ¬ isIn o b := fun h => hm ((isIn_getD hl hb true).2 h)
      obtain ⟨v1, v2⟩ := ih o b hl hb hbo hc
      have hk := visit_keeps f k o b
      obtain ⟨h1, h2⟩ := ihl (visit f k o b) (by rw [hk.1, hl]) (fun m h => hr m (by simp [h])) (Nat.le_trans hk.2 hc)
      refine ⟨⟨by rw [h1.len, v1.len], fun m hmr h => h1.mono m hmr (v1.mono m hmr h), fun m hmr h3 h4 => ?_⟩, fun m hm' => ?_⟩
      · by_cases h5 : isIn (visit f k o b) m
        · obtain ⟨⟨s, rfl, h6⟩, h7⟩ := v1.fresh m hmr h5 h4
          exact ⟨⟨s, by simp, h6⟩, fun c hc' => h1.mono c (after_range hval hmr.1 hmr.2 c hc') (h7 c hc')⟩
        · obtain ⟨⟨s, h6, h7⟩, h8⟩ := h1.fresh m hmr h3 h5
          exact ⟨⟨s, by simp [h6], h7⟩, h8⟩
      · rcases List.mem_cons.1 hm' with rfl | h
        · exact h1.mono _ hb v2
        · exact h2 m h

theorem visit_vis (f : Flow) (hval : valid f = true) : ∀ (k : Nat) (out : List Bool) (n : Int), out.length = f.steps.length → InR f n → ¬ isIn out n → out.count false ≤ k → Vis f (· = n) out (visit f k out n) ∧ isIn (visit f k out n) n := by
  intro k
  induction k with
  | zero =>
    intro out n hl hn ho hc
    exfalso
    have hlt : n.toNat < out.length := by have := hn.1; have := hn.2; omega
    have : out[n.toNat] = false := by
      have h := ho
      unfold isIn at h
      simp only [List.getD_eq_getElem?_getD, List.getElem?_eq_getElem hlt, Option.getD_some] at h
      simpa using h
    have : 0 < out.count false := List.count_pos_iff.2 (List.mem_iff_getElem.2 ⟨_, hlt, this⟩)
    omega
  | succ k ih =>
    intro out n hl hn ho hc
    have hlt : n.toNat < out.length := by have := hn.1; have := hn.2; omega
    have hf : out[n.toNat]? = some false := by
      have h := ho
      unfold isIn at h
      simp only [List.getD_eq_getElem?_getD, List.getElem?_eq_getElem hlt, Option.getD_some] at h
      rw [List.getElem?_eq_getElem hlt]
      simpa using h
    have hcs := count_set_lt hf
    rw [visit_succ]
    have hra := after_range hval hn.1 hn.2
    obtain ⟨h1, h2⟩ := visitAll_vis f hval k ih (afterL (stepD f n)) (out.set n.toNat true) (by simpa using hl) hra (by omega)
    have hself : isIn (visitAll f k (out.set n.toNat true) (afterL (stepD f n))) n := h1.mono n hn ((isIn_set hl hn hn).2 (.inl rfl))
    refine ⟨⟨by rw [h1.len]; simp, fun m hm h => h1.mono m hm ((isIn_set hl hn hm).2 (.inr h)), fun m hm h3 h4 => ?_⟩, hself⟩
    by_cases hmn : m = n
    · subst hmn
      exact ⟨⟨m, rfl, .refl m⟩, h2⟩
    · obtain ⟨⟨b, h5, h6⟩, h7⟩ := h1.fresh m hm h3 (fun h => by
        rcases (isIn_set hl hn hm).1 h with h | h
        · exact hmn h
        · exact h4 h)
      exact ⟨⟨n, rfl, Rch.head h5 h6⟩, h7⟩

theorem isIn_replicate (n : Nat) (m : Int) : ¬ isIn (List.replicate n false) m := by
  unfold isIn
  rw [List.getD_eq_getElem?_getD, List.getElem?_replicate]
  split <;> simp

theorem reached_length (f : Flow) (n : Int) : (reached f n).length = f.steps.length := by
  unfold reached; rw [(visit_keeps f _ _ _).1]; simp

theorem reached_iff {f : Flow} (hval : valid f = true) {n m : Int} (hn : InR f n) (hm : InR f m) : isIn (reached f n) m ↔ Rch f n m := by
  obtain ⟨h1, h2⟩ := visit_vis f hval f.steps.length (List.replicate f.steps.length false) n (by simp) hn (isIn_replicate _ _) (by simp)
  constructor
  · intro h
    obtain ⟨⟨b, rfl, h3⟩, _⟩ := h1.fresh m hm h (isIn_replicate _ _)
    exact h3
  · intro h
    clear hm
    induction h with
    | refl => exact h2
    | step hab hbc ih =>
      have hb := hab.inR hval hn
      exact (h1.fresh _ hb ih (isIn_replicate _ _)).2 _ hbc

theorem mem_trues {l : List Bool} {j : Nat} {x : Int} : x ∈ trues j l ↔ ∃ i : Nat, l[i]? = some true ∧ x = ((j + i : Nat) : Int) := by
  induction l generalizing j with
  | nil => simp [trues]
  | cons b r ih =>
    simp only [trues, List.mem_append, ih]
    constructor
    · rintro (h | ⟨i, h1, h2⟩)
      · cases b with
        | true => exact ⟨0, by simp, by simpa using h⟩
        | false => simp at h
      · exact ⟨i + 1, by simpa using h1, by rw [h2]; congr 1; omega⟩
    · rintro ⟨i, h1, h2⟩
      cases i with
      | zero =>
        left
        simp only [List.getElem?_cons_zero, Option.some.injEq] at h1
        subst h1
        simpa using h2
      | succ i => exact .inr ⟨i, by simpa using h1, by rw [h2]; congr 1; omega⟩

theorem mem_trues0 {l : List Bool} {x : Int} : x ∈ trues 0 l ↔ (0 ≤ x ∧ x < l.length) ∧ isIn l x := by
  rw [mem_trues]
  unfold isIn
  constructor
  · rintro ⟨i, h1, rfl⟩
    have := (List.getElem?_eq_some_iff.1 h1).1
    refine ⟨⟨by omega, by omega⟩, ?_⟩
    rw [List.getD_eq_getElem?_getD]
    simp [h1]
  · rintro ⟨⟨h1, h2⟩, h3⟩
    refine ⟨x.toNat, ?_, by omega⟩
    have : x.toNat < l.length := by omega
    rw [List.getD_eq_getElem?_getD, List.getElem?_eq_getElem this] at h3
    rw [List.getElem?_eq_getElem this]
    simpa using h3

theorem trues_sorted (l : List Bool) (j : Nat) : (trues j l).Pairwise (· < ·) := by
  induction l generalizing j with
  | nil => simp [trues]
  | cons b r ih =>
    simp only [trues]
    rw [List.pairwise_append]
    refine ⟨by split <;> simp, ih _, fun a ha b' hb' => ?_⟩
    obtain ⟨i, _, rfl⟩ := mem_trues.1 hb'
    split at ha
    · simp only [List.mem_singleton] at ha; omega
    · simp at ha

theorem given_one {f : Flow} {n : Int} : given f [n] = true ↔ valid f = true ∧ InR f n := by
  unfold given badStep InR
  simp

theorem given_two {f : Flow} {n m : Int} : given f [n, m] = true ↔ valid f = true ∧ InR f n ∧ InR f m := by
  unfold given badStep InR
  simp

theorem mem_reach {f : Flow} {n m : Int} (hval : valid f = true) (hn : InR f n) : m ∈ reach f n ↔ Rch f n m := by
  unfold reach
  rw [if_pos (given_one.2 ⟨hval, hn⟩), mem_trues0, reached_length]
  constructor
  · rintro ⟨h1, h2⟩; exact (reached_iff hval hn h1).1 h2
  · intro h
    have hm := h.inR hval hn
    exact ⟨hm, (reached_iff hval hn hm).2 h⟩
theorem reach_sorted (f : Flow) (n : Int) : (reach f n).Pairwise (· < ·) := by
  unfold reach
  split
  · exact trues_sorted _ _
  · simp

theorem follow_eq {f : Flow} {n : Int} (hval : valid f = true) (hn : InR f n) : follow f n = afterL (stepD f n) := by
  unfold follow; rw [if_pos (given_one.2 ⟨hval, hn⟩)]

end Go.Proofs.Ytijmlfmapfhabaa

/- The order of ways, in plain Lean: no program here. -/
namespace Go.Proofs.Ytijmlfmapfhabaa

theorem cmpI_neg (a b : Int) : cmpI a b < 0 ↔ a < b := by
  unfold cmpI
  by_cases h : a < b
  · simp [h]
  · by_cases h2 : b < a <;> simp [h, h2]
theorem cmpI_zero (a b : Int) : cmpI a b = 0 ↔ a = b := by
  unfold cmpI
  by_cases h : a < b
  · simp [h]; omega
  · by_cases h2 : b < a
    · simp [h, h2]; omega
    · simp [h, h2]; omega
theorem cmpI_flip (a b : Int) : cmpI b a = - cmpI a b := by
  unfold cmpI
  by_cases h : a < b
  · simp [h, show ¬ b < a from by omega]
  · by_cases h2 : b < a <;> simp [h, h2]

theorem cmpL_flip : ∀ (a b : List Int), cmpL b a = - cmpL a b
  | [], [] => rfl
  | [], _ :: _ => rfl
  | _ :: _, [] => rfl
  | a :: as, b :: bs => by
    simp only [cmpL, cmpI_flip a b]
    by_cases h : cmpI a b = 0
    · rw [if_pos h, if_pos (by omega)]; exact cmpL_flip as bs
    · rw [if_neg h, if_neg (by omega)]
theorem cmpL_zero : ∀ (a b : List Int), cmpL a b = 0 ↔ a = b
  | [], [] => by simp [cmpL]
  | [], _ :: _ => by simp [cmpL]
  | _ :: _, [] => by simp [cmpL]
  | a :: as, b :: bs => by
    simp only [cmpL]
    by_cases h : cmpI a b = 0
    · rw [if_pos h, cmpL_zero as bs, (cmpI_zero a b).1 h]; simp
    · rw [if_neg h]
      have : a ≠ b := fun e => h ((cmpI_zero a b).2 e)
      simp [h, this]
theorem cmpL_trans : ∀ (a b c : List Int), cmpL a b < 0 → cmpL b c < 0 → cmpL a c < 0
  | [], b, [], h1, h2 => by
    cases b with
    | nil => simp [cmpL] at h1
    | cons x xs => simp [cmpL] at h2
  | [], _, _ :: _, _, _ => by simp [cmpL]
  | _ :: _, [], _, h1, _ => by simp [cmpL] at h1
  | _ :: _, _ :: _, [], _, h2 => by simp [cmpL] at h2
  | a :: as, b :: bs, c :: cs, h1, h2 => by
    simp only [cmpL] at h1 h2 ⊢
    have e1 := cmpI_neg a b; have e2 := cmpI_neg b c; have e3 := cmpI_neg a c
    have z1 := cmpI_zero a b; have z2 := cmpI_zero b c; have z3 := cmpI_zero a c
    by_cases p1 : cmpI a b = 0
    · rw [if_pos p1] at h1
      have hab := z1.1 p1
      subst hab
      by_cases p2 : cmpI a c = 0
      · rw [if_pos p2] at h2 ⊢
        exact cmpL_trans as bs cs h1 h2
      · rw [if_neg p2] at h2 ⊢; exact h2
    · rw [if_neg p1] at h1
      have hab := e1.1 h1
      by_cases p2 : cmpI b c = 0
      · have hbc := z2.1 p2
        subst hbc
        rw [if_neg p1]; exact h1
      · rw [if_neg p2] at h2
        have hbc := e2.1 h2
        have : cmpI a c < 0 := e3.2 (by omega)
        rw [if_neg (by omega)]; exact this
theorem cmpL_snoc : ∀ (a b : List Int) (x : Int), a.length = b.length → cmpL (a ++ [x]) (b ++ [x]) = cmpL a b
  | [], [], x, _ => by simp [cmpL, cmpI]
  | [], _ :: _, x, h => by simp at h
  | _ :: _, [], x, h => by simp at h
  | a :: as, b :: bs, x, h => by
    simp only [List.cons_append, cmpL]
    rw [cmpL_snoc as bs x (by simpa using h)]

/-- 'is quicker than, or the same'. -/
def Le (a b : Wy) : Prop := order a b ≤ 0
def Lt (a b : Wy) : Prop := order a b < 0

theorem order_flip (a b : Wy) : order b a = - order a b := by
  unfold order
  simp only [orI, cmpI_flip a.time b.time, cmpI_flip (a.steps.length : Int) b.steps.length, cmpL_flip a.steps b.steps]
  by_cases h1 : cmpI a.time b.time = 0
  · rw [if_pos h1, if_pos (by omega)]
    by_cases h2 : cmpI (a.steps.length : Int) b.steps.length = 0
    · rw [if_pos h2, if_pos (by omega)]
      by_cases h3 : cmpL a.steps b.steps = 0
      · rw [if_pos h3, if_pos (by omega)]; rfl
      · rw [if_neg h3, if_neg (by omega)]
    · rw [if_neg h2, if_neg (by omega)]
  · rw [if_neg h1, if_neg (by omega)]

theorem Lt_iff (a b : Wy) : Lt a b ↔ a.time < b.time ∨ (a.time = b.time ∧ (a.steps.length < b.steps.length ∨ (a.steps.length = b.steps.length ∧ cmpL a.steps b.steps < 0))) := by
  unfold Lt order
  simp only [orI]
  have e1 := cmpI_neg a.time b.time; have z1 := cmpI_zero a.time b.time
  have e2 := cmpI_neg (a.steps.length : Int) b.steps.length; have z2 := cmpI_zero (a.steps.length : Int) b.steps.length
  by_cases h1 : cmpI a.time b.time = 0
  · rw [if_pos h1]
    have := z1.1 h1
    by_cases h2 : cmpI (a.steps.length : Int) b.steps.length = 0
    · rw [if_pos h2]
      have := z2.1 h2
      by_cases h3 : cmpL a.steps b.steps = 0
      · rw [if_pos h3]
        constructor
        · intro h; simp at h
        · rintro (h | ⟨_, h | ⟨_, h⟩⟩) <;> omega
      · rw [if_neg h3]
        constructor
        · intro h; exact .inr ⟨by omega, .inr ⟨by omega, h⟩⟩
        · rintro (h | ⟨_, h | ⟨_, h⟩⟩) <;> omega
    · rw [if_neg h2, e2]
      have h3 : ¬ ((a.steps.length : Int) = b.steps.length) := fun e => h2 (z2.2 e)
      constructor
      · intro h; exact .inr ⟨by omega, .inl (by omega)⟩
      · rintro (h | ⟨_, h | ⟨_, h⟩⟩) <;> omega
  · rw [if_neg h1, e1]
    have h3 : ¬ (a.time = b.time) := fun e => h1 (z1.2 e)
    constructor
    · intro h; exact .inl h
    · rintro (h | ⟨_, _⟩) <;> omega

theorem order_zero (a b : Wy) : order a b = 0 ↔ a = b := by
  constructor
  · intro h
    have h1 : ¬ Lt a b := by unfold Lt; omega
    have h2 : ¬ Lt b a := by unfold Lt; rw [order_flip]; omega
    rw [Lt_iff] at h1 h2
    have ht : a.time = b.time := by
      rcases Int.lt_trichotomy a.time b.time with h | h | h
      · exact absurd (.inl h) h1
      · exact h
      · exact absurd (.inl h) h2
    have hl : a.steps.length = b.steps.length := by
      rcases Nat.lt_trichotomy a.steps.length b.steps.length with h | h | h
      · exact absurd (.inr ⟨ht, .inl h⟩) h1
      · exact h
      · exact absurd (.inr ⟨ht.symm, .inl h⟩) h2
    have hs : cmpL a.steps b.steps = 0 := by
      have h3 : ¬ cmpL a.steps b.steps < 0 := fun h => h1 (.inr ⟨ht, .inr ⟨hl, h⟩⟩)
      have h4 : ¬ cmpL b.steps a.steps < 0 := fun h => h2 (.inr ⟨ht.symm, .inr ⟨hl.symm, h⟩⟩)
      rw [cmpL_flip] at h4
      omega
    cases a; cases b
    simp only [Wy.mk.injEq]
    exact ⟨ht, (cmpL_zero _ _).1 hs⟩
  · rintro rfl
    unfold order
    have h1 := (cmpI_zero a.time a.time).2 rfl
    have h2 := (cmpI_zero (a.steps.length : Int) a.steps.length).2 rfl
    have h3 := (cmpL_zero a.steps a.steps).2 rfl
    simp [orI, h1, h2, h3]

theorem Lt.trans {a b c : Wy} (h1 : Lt a b) (h2 : Lt b c) : Lt a c := by
  rw [Lt_iff] at h1 h2 ⊢
  rcases h1 with h1 | ⟨h1, h1' | ⟨h1', h1''⟩⟩ <;> rcases h2 with h2 | ⟨h2, h2' | ⟨h2', h2''⟩⟩
  · exact .inl (by omega)
  · exact .inl (by omega)
  · exact .inl (by omega)
  · exact .inl (by omega)
  · exact .inr ⟨by omega, .inl (by omega)⟩
  · exact .inr ⟨by omega, .inl (by omega)⟩
  · exact .inl (by omega)
  · exact .inr ⟨by omega, .inl (by omega)⟩
  · exact .inr ⟨by omega, .inr ⟨by omega, cmpL_trans _ _ _ h1'' h2''⟩⟩

theorem Le_iff (a b : Wy) : Le a b ↔ Lt a b ∨ a = b := by
  unfold Le Lt
  rw [← order_zero a b]
  omega
theorem Le.refl (a : Wy) : Le a a := (Le_iff a a).2 (.inr rfl)
theorem Le.trans {a b c : Wy} (h1 : Le a b) (h2 : Le b c) : Le a c := by
  rw [Le_iff] at h1 h2 ⊢
  rcases h1 with h1 | rfl
  · rcases h2 with h2 | rfl
    · exact .inl (h1.trans h2)
    · exact .inl h1
  · exact h2
theorem Lt.le {a b : Wy} (h : Lt a b) : Le a b := (Le_iff a b).2 (.inl h)
theorem not_Lt {a b : Wy} : ¬ Lt a b ↔ Le b a := by unfold Lt Le; rw [order_flip a b]; omega
theorem Le.antisymm {a b : Wy} (h1 : Le a b) (h2 : Le b a) : a = b := by
  rw [← order_zero]
  unfold Le at h1 h2
  rw [order_flip a b] at h2
  omega
theorem Lt_of_Le_Lt {a b c : Wy} (h1 : Le a b) (h2 : Lt b c) : Lt a c := by
  rcases (Le_iff a b).1 h1 with h | rfl
  · exact h.trans h2
  · exact h2
theorem Le.time {a b : Wy} (h : Le a b) : a.time ≤ b.time := by
  rcases (Le_iff a b).1 h with h | rfl
  · rcases (Lt_iff a b).1 h with h | ⟨h, _⟩ <;> omega
  · omega

/-- A way made longer by a step. -/
def ext (f : Flow) (w : Wy) (u : Int) : Wy := ⟨w.time + (stepD f u).min + f.moveMin, w.steps ++ [u]⟩
theorem ext_mono (f : Flow) {a b : Wy} (u : Int) (h : Le a b) : Le (ext f a u) (ext f b u) := by
  rcases (Le_iff a b).1 h with h | rfl
  · refine Lt.le ?_
    rw [Lt_iff] at h ⊢
    simp only [ext, List.length_append, List.length_cons, List.length_nil]
    rcases h with h | ⟨h, h' | ⟨h', h''⟩⟩
    · exact .inl (by omega)
    · exact .inr ⟨by omega, .inl (by omega)⟩
    · exact .inr ⟨by omega, .inr ⟨by omega, by rw [cmpL_snoc _ _ _ h']; exact h''⟩⟩
  · exact Le.refl _
theorem ext_lt {f : Flow} (hval : valid f = true) {u : Int} (hu : InR f u) (w : Wy) : Lt w (ext f w u) := by
  rw [Lt_iff]
  left
  have h1 := valid_step hval hu.1 hu.2
  unfold rightStep at h1
  simp only [Bool.and_eq_true, decide_eq_true_eq] at h1
  have h2 : 0 ≤ f.moveMin := by
    unfold valid rightMoves at hval
    simp only [Bool.and_eq_true, decide_eq_true_eq] at hval
    omega
  simp only [ext]
  omega

/-- A way from a step to another one. -/
inductive IsWay (f : Flow) (a : Int) : Int → Wy → Prop where
  | base {v : Int} : v ∈ afterL (stepD f a) → IsWay f a v ⟨f.moveMin, []⟩
  | step {u v : Int} {w : Wy} : IsWay f a u w → v ∈ afterL (stepD f u) → IsWay f a v (ext f w u)

theorem IsWay.inR {f : Flow} (hval : valid f = true) {a v : Int} {w : Wy} (ha : InR f a) (h : IsWay f a v w) : InR f v := by
  induction h with
  | base h => exact after_range hval ha.1 ha.2 _ h
  | step _ h ih => exact after_range hval ih.1 ih.2 _ h
end Go.Proofs.Ytijmlfmapfhabaa

/- The quickest ways are what they are called, in plain Lean: no program here. -/
namespace Go.Proofs.Ytijmlfmapfhabaa

/-- The way to a step that a list of ways holds. -/
def og (out : List (Option Wy)) (v : Int) : Option Wy := out.getD v.toNat none

theorem better_iff (w : Wy) (o : Option Wy) : better w o = true ↔ ∀ x, o = some x → Lt w x := by
  cases o with
  | none => simp [better]
  | some x => simp [better, Lt]

theorem og_set {out : List (Option Wy)} {n v : Int} (hn : 0 ≤ n ∧ n < out.length) (hv : 0 ≤ v) (w : Option Wy) : og (out.set n.toNat w) v = if v = n then w else og out v := by
  unfold og
  simp only [List.getD_eq_getElem?_getD, List.getElem?_set]
  by_cases h : v = n
  · subst h
    have : v.toNat < out.length := by omega
    simp [this]
  · have : ¬ n.toNat = v.toNat := by omega
    simp [h, this]

theorem og_addStep {out : List (Option Wy)} {n v : Int} (hn : 0 ≤ n ∧ n < out.length) (hv : 0 ≤ v) (w : Wy) :
    og (addStep w out n) v = if v = n ∧ better w (og out v) = true then some w else og out v := by
  unfold addStep
  by_cases h : v = n
  · subst h
    by_cases hb : better w (out.getD v.toNat none) = true
    · rw [if_pos hb, og_set hn hv, if_pos rfl, if_pos ⟨rfl, hb⟩]
    · rw [if_neg hb, if_neg (fun h => hb h.2)]
  · have e : (if v = n ∧ better w (og out v) = true then some w else og out v) = og out v := if_neg (fun h' => h h'.1)
    rw [e]
    split
    · rw [og_set hn hv, if_neg h]
    · rfl

theorem og_addAll (w : Wy) {v : Int} (hv : 0 ≤ v) : ∀ (l : List Int) (out : List (Option Wy)), (∀ m ∈ l, 0 ≤ m ∧ m < out.length) →
    og (addAll w out l) v = if v ∈ l ∧ better w (og out v) = true then some w else og out v := by
  intro l
  induction l with
  | nil => intro out _; simp [addAll]
  | cons n r ih =>
    intro out hr
    have hn := hr n (by simp)
    have e : addAll w out (n :: r) = addAll w (addStep w out n) r := by unfold addAll; rw [List.foldl_cons]
    rw [e, ih _ (fun m hm => by rw [addStep_len]; exact hr m (by simp [hm])), og_addStep hn hv]
    by_cases h : v = n ∧ better w (og out v) = true
    · rw [if_pos h]
      have hns : ¬ better w (some w) = true := by
        rw [better_iff]; intro h
        have := h w rfl
        rw [Lt_iff] at this
        rcases this with h | ⟨_, h | ⟨_, h⟩⟩
        · omega
        · omega
        · rw [(cmpL_zero _ _).2 rfl] at h; omega
      rw [if_neg (fun h' => hns h'.2), if_pos ⟨by simp [h.1], h.2⟩]
    · rw [if_neg h]
      by_cases hb : better w (og out v) = true
      · have hvn : v ≠ n := fun e => h ⟨e, hb⟩
        simp [hb, hvn]
      · simp [hb]

/-- What is picked is least. -/
theorem pickTo_least (out : List (Option Wy)) (done : List Bool) (k : Nat) :
    (pickTo out done k < 0 → ∀ j : Nat, j < k → out.getD j none = none ∨ done.getD j true = true) ∧
    (0 ≤ pickTo out done k → ∀ w, out.getD (pickTo out done k).toNat none = some w → ∀ j : Nat, j < k → ∀ w', out.getD j none = some w' → done.getD j true = false → Le w w') := by
  induction k with
  | zero => exact ⟨fun _ j hj => by omega, fun _ w _ j hj => by omega⟩
  | succ k ih =>
    obtain ⟨ih1, ih2⟩ := ih
    have hok := pickTo_ok out done k
    rw [pickTo_succ]
    unfold pickStep
    cases ho : out.getD k none with
    | none =>
      simp only
      refine ⟨fun h j hj => ?_, fun h w hw j hj w' hw' hd => ?_⟩
      · by_cases e : j = k
        · subst e; exact .inl ho
        · exact ih1 h j (by omega)
      · by_cases e : j = k
        · subst e; rw [ho] at hw'; cases hw'
        · exact ih2 h w hw j (by omega) w' hw' hd
    | some wk =>
      simp only
      by_cases hd : done.getD k true = true
      · rw [if_pos hd]
        refine ⟨fun h j hj => ?_, fun h w hw j hj w' hw' hdj => ?_⟩
        · by_cases e : j = k
          · subst e; exact .inr hd
          · exact ih1 h j (by omega)
        · by_cases e : j = k
          · subst e; rw [hd] at hdj; cases hdj
          · exact ih2 h w hw j (by omega) w' hw' hdj
      · rw [if_neg hd]
        by_cases hneg : pickTo out done k < 0
        · rw [if_pos hneg]
          refine ⟨fun h => absurd h (by omega), fun _ w hw j hj w' hw' hdj => ?_⟩
          rw [show ((k : Int)).toNat = k from by omega, ho] at hw
          obtain rfl := Option.some.inj hw
          by_cases e : j = k
          · subst e
            rw [ho] at hw'
            obtain rfl := Option.some.inj hw'
            exact Le.refl _
          · rcases ih1 hneg j (by omega) with h | h
            · rw [h] at hw'; cases hw'
            · rw [h] at hdj; cases hdj
        · rw [if_neg hneg]
          rcases hok with h | ⟨h0, h1, ⟨wb, hwb⟩, h3⟩
          · omega
          by_cases hb : better wk (out.getD (pickTo out done k).toNat none) = true
          · rw [if_pos hb]
            have hlt := (better_iff _ _).1 hb wb hwb
            refine ⟨fun h => absurd h (by omega), fun _ w hw j hj w' hw' hdj => ?_⟩
            rw [show ((k : Int)).toNat = k from by omega, ho] at hw
            obtain rfl := Option.some.inj hw
            by_cases e : j = k
            · subst e
              rw [ho] at hw'
              obtain rfl := Option.some.inj hw'
              exact Le.refl _
            · exact hlt.le.trans (ih2 h0 wb hwb j (by omega) w' hw' hdj)
          · rw [if_neg hb]
            have hle : Le wb wk := by
              rw [← not_Lt]
              intro hlt
              exact hb ((better_iff _ _).2 fun x hx => by rw [hwb] at hx; obtain rfl := Option.some.inj hx; exact hlt)
            refine ⟨fun h => absurd h hneg, fun _ w hw j hj w' hw' hdj => ?_⟩
            rw [hwb] at hw
            obtain rfl := Option.some.inj hw
            by_cases e : j = k
            · subst e
              rw [ho] at hw'
              obtain rfl := Option.some.inj hw'
              exact hle
            · exact ih2 h0 wb hwb j (by omega) w' hw' hdj

theorem pickMin_eq (out : List (Option Wy)) (done : List Bool) : pickMin out done = pickTo out done out.length := rfl

/-- What holds between the rounds. -/
structure WInv (f : Flow) (a : Int) (out : List (Option Wy)) (done : List Bool) : Prop where
  lo : out.length = f.steps.length
  ld : done.length = f.steps.length
  way : ∀ v w, InR f v → og out v = some w → IsWay f a v w
  base : ∀ v ∈ afterL (stepD f a), ∃ w, og out v = some w ∧ Le w ⟨f.moveMin, []⟩
  cl : ∀ u, InR f u → isIn done u → ∃ w, og out u = some w ∧ ∀ v ∈ afterL (stepD f u), ∃ w', og out v = some w' ∧ Le w' (ext f w u)
  ord : ∀ u v w w', InR f u → InR f v → isIn done u → ¬ isIn done v → og out u = some w → og out v = some w' → Le w w'
  len : ∀ v w, InR f v → og out v = some w → w.steps.length + done.count false ≤ f.steps.length
  tm : ∀ v w, InR f v → og out v = some w → 0 ≤ w.time ∧ w.time ≤ 20000 * ((w.steps.length : Int) + 1)

theorem valid_mv {f : Flow} (h : valid f = true) : 0 ≤ f.moveMin ∧ f.moveMin ≤ 10000 := by
  unfold valid rightMoves at h
  simp only [Bool.and_eq_true, decide_eq_true_eq] at h
  omega
theorem valid_n {f : Flow} (h : valid f = true) : 1 ≤ f.steps.length ∧ f.steps.length ≤ 40 := by
  unfold valid within at h
  simp only [Bool.and_eq_true, decide_eq_true_eq] at h
  omega
theorem valid_min {f : Flow} (h : valid f = true) {u : Int} (hu : InR f u) : 1 ≤ (stepD f u).min ∧ (stepD f u).min ≤ 10000 := by
  have h1 := valid_step h hu.1 hu.2
  unfold rightStep at h1
  simp only [Bool.and_eq_true, decide_eq_true_eq] at h1
  omega

theorem WInv.start {f : Flow} (hval : valid f = true) {a : Int} (ha : InR f a) : WInv f a (addAll ⟨f.moveMin, []⟩ (List.replicate f.steps.length none) (afterL (stepD f a))) (List.replicate f.steps.length false) := by
  have hr := after_range hval ha.1 ha.2
  have hog : ∀ v, InR f v → og (addAll ⟨f.moveMin, []⟩ (List.replicate f.steps.length none) (afterL (stepD f a))) v = if v ∈ afterL (stepD f a) then some ⟨f.moveMin, []⟩ else none := by
    intro v hv
    rw [og_addAll _ hv.1 _ _ (by intro m hm; simpa using hr m hm)]
    have : og (List.replicate f.steps.length none) v = none := by
      unfold og
      rw [List.getD_eq_getElem?_getD, List.getElem?_replicate]
      split <;> rfl
    rw [this]
    simp [better]
  have hmv := valid_mv hval
  refine ⟨by rw [addAll_len]; simp, by simp, fun v w hv h => ?_, fun v hv => ?_, fun u _ h => absurd h (isIn_replicate _ _), fun u _ _ _ _ _ h => absurd h (isIn_replicate _ _), fun v w hv h => ?_, fun v w hv h => ?_⟩
  · rw [hog v hv] at h
    split at h
    · obtain rfl := Option.some.inj h; exact .base (by assumption)
    · cases h
  · have hv' := hr v hv
    exact ⟨_, by rw [hog v hv', if_pos hv], Le.refl _⟩
  · rw [hog v hv] at h
    split at h
    · obtain rfl := Option.some.inj h; simp
    · cases h
  · rw [hog v hv] at h
    split at h
    · obtain rfl := Option.some.inj h; simp; omega
    · cases h

theorem WInv.next {f : Flow} (hval : valid f = true) {a : Int} (ha : InR f a) {out : List (Option Wy)} {done : List Bool} (h : WInv f a out done) {at_ : Int} (hat : InR f at_) {w : Wy} (how : og out at_ = some w) (hnd : ¬ isIn done at_)
    (hleast : ∀ v w', InR f v → ¬ isIn done v → og out v = some w' → Le w w') :
    WInv f a (addAll (ext f w at_) out (afterL (stepD f at_))) (done.set at_.toNat true) := by
  have hr := after_range hval hat.1 hat.2
  have hlt := ext_lt hval hat w
  have hog : ∀ v, InR f v → og (addAll (ext f w at_) out (afterL (stepD f at_))) v = if v ∈ afterL (stepD f at_) ∧ better (ext f w at_) (og out v) = true then some (ext f w at_) else og out v :=
    fun v hv => og_addAll _ hv.1 _ _ (by intro m hm; rw [h.lo]; exact hr m hm)
  have hin : ∀ v, InR f v → (isIn (done.set at_.toNat true) v ↔ v = at_ ∨ isIn done v) := fun v hv => isIn_set h.ld hat hv
  -- every way there only becomes better
  have hle : ∀ v x, InR f v → og out v = some x → ∃ y, og (addAll (ext f w at_) out (afterL (stepD f at_))) v = some y ∧ Le y x := by
    intro v x hv hx
    rw [hog v hv]
    split
    · rename_i hc
      exact ⟨_, rfl, ((better_iff _ _).1 hc.2 x hx).le⟩
    · exact ⟨x, hx, Le.refl _⟩
  -- what is done with stays
  have hkeep : ∀ u x, InR f u → (u = at_ ∨ isIn done u) → og out u = some x → og (addAll (ext f w at_) out (afterL (stepD f at_))) u = some x ∧ Le x w := by
    intro u x hu hd hx
    have hxw : Le x w := by
      rcases hd with rfl | hd
      · rw [how] at hx; obtain rfl := Option.some.inj hx; exact Le.refl _
      · exact h.ord u at_ x w hu hat hd hnd hx how
    refine ⟨?_, hxw⟩
    rw [hog u hu, if_neg]
    · exact hx
    · rintro ⟨_, hb⟩
      have := (better_iff _ _).1 hb x hx
      exact not_Lt.2 (hxw.trans hlt.le) this
  have hfd : done[at_.toNat]? = some false := by
    have hl : at_.toNat < done.length := by have := h.ld; have := hat.1; have := hat.2; omega
    unfold isIn at hnd
    rw [List.getD_eq_getElem?_getD, List.getElem?_eq_getElem hl] at hnd
    rw [List.getElem?_eq_getElem hl]
    simpa using hnd
  have hcs := count_set_lt hfd
  have hwl := h.len at_ w hat how
  have hwt := h.tm at_ w hat how
  have hmn := valid_min hval hat
  have hmv := valid_mv hval
  refine ⟨by rw [addAll_len, h.lo], by simpa using h.ld, fun v x hv hx => ?_, fun v hv => ?_, fun u hu hd => ?_, fun u v x x' hu hv hdu hdv hx hx' => ?_, fun v x hv hx => ?_, fun v x hv hx => ?_⟩
  · rw [hog v hv] at hx
    split at hx
    · rename_i hc
      obtain rfl := Option.some.inj hx
      exact .step (h.way at_ w hat how) hc.1
    · exact h.way v x hv hx
  · have hva : InR f v := after_range hval ha.1 ha.2 v hv
    obtain ⟨x, hx, hxl⟩ := h.base v hv
    obtain ⟨y, hy, hyl⟩ := hle v x hva hx
    exact ⟨y, hy, hyl.trans hxl⟩
  · have hd := (hin u hu).1 hd
    by_cases hua : u = at_
    · subst hua
      obtain ⟨h1, _⟩ := hkeep u w hu (.inl rfl) how
      refine ⟨w, h1, fun v hv => ?_⟩
      have hvr : InR f v := hr v hv
      rw [hog v hvr]
      by_cases hb : better (ext f w u) (og out v) = true
      · exact ⟨_, by rw [if_pos ⟨hv, hb⟩], Le.refl _⟩
      · rw [if_neg (fun h => hb h.2)]
        cases hov : og out v with
        | none => rw [hov] at hb; simp [better] at hb
        | some x =>
          refine ⟨x, rfl, ?_⟩
          rw [← not_Lt]
          intro hl
          exact hb ((better_iff _ _).2 fun y hy => by rw [hov] at hy; obtain rfl := Option.some.inj hy; exact hl)
    · have hdu := hd.resolve_left hua
      obtain ⟨x, hx, hcl⟩ := h.cl u hu hdu
      obtain ⟨h1, _⟩ := hkeep u x hu (.inr hdu) hx
      refine ⟨x, h1, fun v hv => ?_⟩
      obtain ⟨y, hy, hyl⟩ := hcl v hv
      obtain ⟨z, hz, hzl⟩ := hle v y (after_range hval hu.1 hu.2 v hv) hy
      exact ⟨z, hz, hzl.trans hyl⟩
  · have hdu := (hin u hu).1 hdu
    have hdv : ¬ isIn done v := fun e => hdv ((hin v hv).2 (.inr e))
    have hxu : ∃ x0, og out u = some x0 := by
      rcases hdu with rfl | hdu
      · exact ⟨w, how⟩
      · obtain ⟨x0, h0, _⟩ := h.cl u hu hdu; exact ⟨x0, h0⟩
    obtain ⟨x0, hx0⟩ := hxu
    obtain ⟨h1, h2⟩ := hkeep u x0 hu hdu hx0
    rw [h1] at hx
    obtain rfl := Option.some.inj hx
    rw [hog v hv] at hx'
    split at hx'
    · obtain rfl := Option.some.inj hx'
      exact h2.trans hlt.le
    · exact h2.trans (hleast v x' hv hdv hx')
  · rw [hog v hv] at hx
    split at hx
    · obtain rfl := Option.some.inj hx
      simp only [ext, List.length_append, List.length_cons, List.length_nil]
      omega
    · have := h.len v x hv hx; omega
  · rw [hog v hv] at hx
    split at hx
    · obtain rfl := Option.some.inj hx
      simp only [ext, List.length_append, List.length_cons, List.length_nil]
      omega
    · exact h.tm v x hv hx

theorem waysGo_inv {f : Flow} (hval : valid f = true) {a : Int} (ha : InR f a) : ∀ (k : Nat) (out : List (Option Wy)) (done : List Bool), WInv f a out done → done.count false < k →
    ∃ done', WInv f a (waysGo f k out done) done' ∧ ∀ v, InR f v → og (waysGo f k out done) v ≠ none → isIn done' v := by
  intro k
  induction k with
  | zero => intro out done _ hc; omega
  | succ k ih =>
    intro out done h hc
    rw [waysGo]
    have hl := pickTo_least out done out.length
    have hok := pickTo_ok out done out.length
    rw [← pickMin_eq] at hl hok
    by_cases hneg : pickMin out done < 0
    · rw [if_pos hneg]
      refine ⟨done, h, fun v hv hne => ?_⟩
      rcases hl.1 hneg v.toNat (by have := h.lo; have := hv.1; have := hv.2; omega) with h1 | h1
      · exact absurd h1 hne
      · exact (isIn_getD h.ld hv true).1 h1
    · rw [if_neg hneg]
      rcases hok with h1 | ⟨h0, h1, ⟨w, hw⟩, h3⟩
      · omega
      rw [hw]
      simp only
      have hat : InR f (pickMin out done) := ⟨h0, by have := h.lo; omega⟩
      have hnd : ¬ isIn done (pickMin out done) := fun e => by
        have := (isIn_getD h.ld hat true).2 e
        rw [h3] at this; cases this
      have hn := h.next hval ha hat hw hnd (fun v w' hv hdv hw' => hl.2 h0 w hw v.toNat (by have := h.lo; have := hv.1; have := hv.2; omega) w' hw' (by
        cases hx : done.getD v.toNat true with
        | false => rfl
        | true => exact absurd ((isIn_getD h.ld hv true).1 hx) hdv))
      have hfd : done[(pickMin out done).toNat]? = some false := by
        have hl : (pickMin out done).toNat < done.length := by have := h.ld; have := hat.1; have := hat.2; omega
        rw [List.getD_eq_getElem?_getD, List.getElem?_eq_getElem hl] at h3
        rw [List.getElem?_eq_getElem hl]
        exact congrArg some h3
      have hcs := count_set_lt hfd
      exact ih _ _ hn (by omega)

theorem ways_inv {f : Flow} (hval : valid f = true) {a : Int} (ha : InR f a) : ∃ done', WInv f a (ways f a) done' ∧ ∀ v, InR f v → og (ways f a) v ≠ none → isIn done' v :=
  waysGo_inv hval ha _ _ _ (WInv.start hval ha) (by simp)

theorem ways_length {f : Flow} (hval : valid f = true) {a : Int} (ha : InR f a) : (ways f a).length = f.steps.length := by
  obtain ⟨_, h, _⟩ := ways_inv hval ha; exact h.lo

/-- The quickest way to a step is a way, and none is before it. -/
theorem ways_is {f : Flow} (hval : valid f = true) {a : Int} (ha : InR f a) {v : Int} (hv : InR f v) {w : Wy} (h : og (ways f a) v = some w) : IsWay f a v w := by
  obtain ⟨_, hi, _⟩ := ways_inv hval ha; exact hi.way v w hv h
theorem ways_least {f : Flow} (hval : valid f = true) {a : Int} (ha : InR f a) {v : Int} {w' : Wy} (h : IsWay f a v w') : ∃ w, og (ways f a) v = some w ∧ Le w w' := by
  obtain ⟨done, hi, hd⟩ := ways_inv hval ha
  induction h with
  | base h => exact hi.base _ h
  | step hu hv ih =>
    obtain ⟨w, hw, hle⟩ := ih
    have hur := hu.inR hval ha
    have hdu := hd _ hur (by rw [hw]; simp)
    obtain ⟨x, hx, hcl⟩ := hi.cl _ hur hdu
    rw [hw] at hx
    obtain rfl := Option.some.inj hx
    obtain ⟨y, hy, hyl⟩ := hcl _ hv
    exact ⟨y, hy, hyl.trans (ext_mono f _ hle)⟩
theorem ways_bound {f : Flow} (hval : valid f = true) {a : Int} (ha : InR f a) {v : Int} (hv : InR f v) {w : Wy} (h : og (ways f a) v = some w) : (0 ≤ w.time ∧ w.time ≤ 1000000) ∧ w.steps.length ≤ f.steps.length := by
  obtain ⟨_, hi, _⟩ := ways_inv hval ha
  have h1 := hi.len v w hv h
  have h2 := hi.tm v w hv h
  have h3 := valid_n hval
  omega
end Go.Proofs.Ytijmlfmapfhabaa

/- What Way, Quickest, Finish and Check answer, in plain Lean. -/
namespace Go.Proofs.Ytijmlfmapfhabaa

def wayM (f : Flow) (a b : Int) : List Int × Bool := if given f [a, b] then (match og (ways f a) b with | none => ([], false) | some w => (w.steps, true)) else ([], false)
def quickest (f : Flow) (a b : Int) : Int × Bool := if given f [a, b] then (match og (ways f a) b with | none => (0, false) | some w => (w.time, true)) else (0, false)

def finStep (f : Flow) (out : List (Option Wy)) (acc : Int × Bool) (n : Nat) : Int × Bool :=
  match out.getD n none with
  | none => acc
  | some w => if isEnd (stepD f n) = true then (if acc.2 = false ∨ w.time + (stepD f n).min < acc.1 then (w.time + (stepD f n).min, true) else acc) else acc
def finTo (f : Flow) (out : List (Option Wy)) (k : Nat) : Int × Bool := (List.range k).foldl (finStep f out) (0, false)
theorem finTo_succ (f : Flow) (out : List (Option Wy)) (k : Nat) : finTo f out (k + 1) = finStep f out (finTo f out k) k := by
  unfold finTo; rw [List.range_succ, List.foldl_append]; rfl
def finish (f : Flow) (a : Int) : Int × Bool := if given f [a] then (if isEnd (stepD f a) then (0, true) else finTo f (ways f a) f.steps.length) else (0, false)

/-- An end can be reached from a step. -/
def alive (f : Flow) (n : Int) : Bool := (ends f).any fun e => (reached f n).getD e.toNat false
def deadL (f : Flow) (l : List Int) : Option Int := l.find? fun n => !alive f n
def bestStep (f : Flow) (best : List Int) (n : Int) : List Int :=
  if 0 < (cycle f (reached f 0) n).length ∧ (best = [] ∨ (cycle f (reached f 0) n).length < best.length) then cycle f (reached f 0) n else best
def bestL (f : Flow) (l : List Int) : List Int := l.foldl (bestStep f) []
def check (f : Flow) : Int × List Int :=
  match deadL f (reach f 0) with
  | some n => (1, [n])
  | none => if bestL f (reach f 0) = [] then (0, []) else (2, bestL f (reach f 0))
theorem bestL_snoc (f : Flow) (l : List Int) (n : Int) : bestL f (l ++ [n]) = bestStep f (bestL f l) n := by
  unfold bestL; rw [List.foldl_append]; rfl
end Go.Proofs.Ytijmlfmapfhabaa

/- The flows of the statements, in plain Lean: the example, and those that integers determine. -/
namespace Go.Proofs.Ytijmlfmapfhabaa

/-- An integer made an index. -/
def pickM (c n : Int) : Int := (if c < 0 then -(c + 1) else c).tmod n
theorem pickM_range {c n : Int} (hn : 0 < n) : 0 ≤ pickM c n ∧ pickM c n < n := by
  unfold pickM
  have h : 0 ≤ (if c < 0 then -(c + 1) else c) := by split <;> omega
  exact ⟨Int.tmod_nonneg _ h, Int.tmod_lt_of_pos _ hn⟩

def I64 (n : Int) : Prop := -9223372036854775808 ≤ n ∧ n ≤ 9223372036854775807
theorem tdiv_I64 {c n : Int} (h : I64 c) (hn : 0 < n) : I64 (c.tdiv n) := by
  unfold I64 at h ⊢
  rcases Int.lt_or_le c 0 with h0 | h0
  · have h1 : 0 ≤ (-c).tdiv n := Int.tdiv_nonneg (by omega) (by omega)
    have h2 : (-c).tdiv n ≤ -c := Int.tdiv_le_self _ (by omega)
    rw [Int.neg_tdiv] at h1 h2
    omega
  · have h1 : 0 ≤ c.tdiv n := Int.tdiv_nonneg h0 (by omega)
    have h2 : c.tdiv n ≤ c := Int.tdiv_le_self _ h0
    omega
theorem fdiv_I64 {c : Int} (h : I64 c) (j : Nat) : I64 (c.fdiv (2 ^ j)) := by
  unfold I64 at h ⊢
  have hp : (0 : Int) < 2 ^ j := Int.pow_pos (by omega)
  have e : c.fdiv (2 ^ j) = c / 2 ^ j := Int.fdiv_eq_ediv_of_nonneg _ (by omega)
  rw [e]
  constructor
  · have : -9223372036854775808 ≤ c / 2 ^ j := by
      rw [Int.le_ediv_iff_mul_le hp]
      have h1 : (1 : Int) ≤ 2 ^ j := by omega
      have h2 : (-9223372036854775808 : Int) * 2 ^ j ≤ -9223372036854775808 * 1 := Int.mul_le_mul_of_nonpos_left (by omega) h1
      omega
    exact this
  · rcases Int.lt_or_le c 0 with h0 | h0
    · have : c / 2 ^ j < 0 := Int.ediv_neg_of_neg_of_pos h0 hp
      omega
    · have : c / 2 ^ j ≤ c := Int.ediv_le_self _ h0
      omega

structure Y6 where
  y0 : Int
  y1 : Int
  y2 : Int
  y3 : Int
  y4 : Int
  y5 : Int

structure Y6.fit (y : Y6) : Prop where
  h0 : I64 y.y0
  h1 : I64 y.y1
  h2 : I64 y.y2
  h3 : I64 y.y3
  h4 : I64 y.y4
  h5 : I64 y.y5

def later (y : Y6) (i k : Nat) : Bool :=
  (decide (k = i + 1) && decide (0 < pickM y.y2 8)) || (decide (i + 1 < k) && decide (pickM (y.y2.fdiv (2 ^ k)) 4 = 0)) || (decide (k ≤ i) && decide (pickM (y.y2.fdiv (2 ^ k)) 41 = 0))
def nextStep (y : Y6) (i : Nat) (acc : List Int) (k : Nat) : List Int := if later y i k = true ∧ acc.length < 4 then acc ++ [(k : Int)] else acc
def nextTo (y : Y6) (i k : Nat) : List Int := (List.range k).foldl (nextStep y i) []
theorem nextTo_succ (y : Y6) (i k : Nat) : nextTo y i (k + 1) = nextStep y i (nextTo y i k) k := by
  unfold nextTo; rw [List.range_succ, List.foldl_append]; rfl

def stepOf (x : List Y6) (n i : Nat) : Step :=
  match x[i]? with
  | none => ⟨1 + i, [(i : Int)], 10, 10, [], -1, 0⟩
  | some y => ⟨1 + pickM y.y0 6, [pickM (y.y0.tdiv 6) 5, 5 + pickM (y.y0.tdiv 30) 5], 1 + pickM y.y1 20, 1 + pickM y.y1 20 + pickM (y.y1.tdiv 20) 15, nextTo y i n,
      if pickM y.y3 3 = 0 then pickM (y.y3.tdiv 3) n else -1, if pickM y.y3 3 = 0 then 1 + pickM y.y4 3 else 0⟩
def winOf (x : List Y6) (n i : Nat) : List Window :=
  match x[i]? with
  | none => []
  | some y => if pickM (y.y4.tdiv 3) n ≠ i ∧ pickM y.y4 2 = 0 then [⟨i, pickM (y.y4.tdiv 3) n, pickM y.y5 120⟩] else []

def madeN (x : List Y6) : Nat := max 1 (min x.length 10)
def stepsTo (x : List Y6) (n k : Nat) : List Step := (List.range k).map (stepOf x n)
def winsTo (x : List Y6) (n k : Nat) : List Window := (List.range k).flatMap (winOf x n)
theorem stepsTo_succ (x : List Y6) (n k : Nat) : stepsTo x n (k + 1) = stepsTo x n k ++ [stepOf x n k] := by
  unfold stepsTo; rw [List.range_succ, List.map_append]; rfl
theorem winsTo_succ (x : List Y6) (n k : Nat) : winsTo x n (k + 1) = winsTo x n k ++ winOf x n k := by
  unfold winsTo; rw [List.range_succ, List.flatMap_append]; simp
def made (x : List Y6) : Flow :=
  ⟨match x[0]? with | none => 2 | some y => pickM y.y5 7, match x[0]? with | none => 9 | some y => pickM y.y5 7 + pickM (y.y5.tdiv 7) 20, stepsTo x (madeN x) (madeN x), winsTo x (madeN x) (min (madeN x) x.length)⟩

theorem nextTo_len (y : Y6) (i k : Nat) : (nextTo y i k).length ≤ 4 := by
  induction k with
  | zero => simp [nextTo]
  | succ k ih =>
    rw [nextTo_succ]
    unfold nextStep
    split
    · rw [List.length_append]; rename_i h; simp; omega
    · exact ih

theorem ascending_iff (l : List Int) (lo hi : Int) : ascending l lo hi = true ↔ (∀ m ∈ l, lo ≤ m ∧ m ≤ hi) ∧ l.Pairwise (· < ·) := by
  have go : ∀ (l : List Int) (p : Int), ascGo lo hi p l = true ↔ (∀ m ∈ l, lo ≤ m ∧ m ≤ hi) ∧ (p :: l).Pairwise (· < ·) := by
    intro l
    induction l with
    | nil => simp [ascGo]
    | cons n r ih =>
      intro p
      simp only [ascGo, within, Bool.and_eq_true, decide_eq_true_eq, ih, List.pairwise_cons, List.mem_cons]
      constructor
      · rintro ⟨⟨⟨h1, h2⟩, h3⟩, h4, h5, h6⟩
        refine ⟨?_, ?_, h5, h6⟩
        · rintro m (rfl | hm)
          · exact ⟨h1, h2⟩
          · exact h4 m hm
        · rintro m (rfl | hm)
          · exact h3
          · have := h5 m hm; omega
      · rintro ⟨h1, h2, h3, h4⟩
        exact ⟨⟨h1 n (.inl rfl), h2 n (.inl rfl)⟩, fun m hm => h1 m (.inr hm), h3, h4⟩
  cases l with
  | nil => simp [ascending]
  | cons n r =>
    simp only [ascending, within, Bool.and_eq_true, decide_eq_true_eq, go, List.mem_cons]
    constructor
    · rintro ⟨h1, h2, h3⟩
      refine ⟨?_, h3⟩
      rintro m (rfl | hm)
      · exact h1
      · exact h2 m hm
    · rintro ⟨h1, h2⟩
      exact ⟨h1 n (.inl rfl), fun m hm => h1 m (.inr hm), h2⟩

theorem nextTo_asc (y : Y6) (i k : Nat) : (∀ m ∈ nextTo y i k, 0 ≤ m ∧ m < k) ∧ (nextTo y i k).Pairwise (· < ·) := by
  induction k with
  | zero => simp [nextTo]
  | succ k ih =>
    rw [nextTo_succ]
    unfold nextStep
    split
    · refine ⟨fun m hm => ?_, ?_⟩
      · rcases List.mem_append.1 hm with h | h
        · have := ih.1 m h; omega
        · rw [List.mem_singleton] at h; omega
      · rw [List.pairwise_append]
        exact ⟨ih.2, by simp, fun a ha b hb => by have := ih.1 a ha; rw [List.mem_singleton] at hb; omega⟩
    · exact ⟨fun m hm => by have := ih.1 m hm; omega, ih.2⟩

theorem madeN_range (x : List Y6) : 1 ≤ madeN x ∧ madeN x ≤ 10 := by unfold madeN; omega

theorem stepOf_right (x : List Y6) (n i : Nat) (hn : 1 ≤ n) (hn2 : n ≤ 10) (hi : i < n) : rightStep (stepOf x n i) n = true := by
  unfold stepOf
  cases x[i]? with
  | none =>
    simp only [rightStep, within, Bool.and_eq_true, Bool.or_eq_true, decide_eq_true_eq, beq_iff_eq, ascending_iff]
    simp
    omega
  | some y =>
    have p1 := pickM_range (c := y.y0) (n := 6) (by omega)
    have p2 := pickM_range (c := y.y0.tdiv 6) (n := 5) (by omega)
    have p3 := pickM_range (c := y.y0.tdiv 30) (n := 5) (by omega)
    have p4 := pickM_range (c := y.y1) (n := 20) (by omega)
    have p5 := pickM_range (c := y.y1.tdiv 20) (n := 15) (by omega)
    have p6 := pickM_range (c := y.y3.tdiv 3) (n := n) (by omega)
    have p7 := pickM_range (c := y.y4) (n := 3) (by omega)
    have q1 := nextTo_len y i n
    have q2 := nextTo_asc y i n
    simp only [rightStep, within, Bool.and_eq_true, Bool.or_eq_true, decide_eq_true_eq, beq_iff_eq, ascending_iff]
    refine ⟨⟨⟨⟨⟨⟨⟨?_, ?_, ?_⟩, ?_⟩, ?_⟩, ?_⟩, ?_⟩, ?_⟩, ?_⟩
    · by_cases h : pickM y.y3 3 = 0
      · right; rw [if_pos h, if_pos h]; omega
      · left; rw [if_neg h, if_neg h]; omega
    · simp
    · omega
    · omega
    · refine ⟨?_, ?_⟩
      · intro m hm
        simp only [List.mem_cons, List.not_mem_nil, or_false] at hm
        rcases hm with rfl | rfl <;> omega
      · simp; omega
    · exact ⟨fun m hm => by have := q2.1 m hm; omega, q2.2⟩
    · omega
    · omega
    · omega

theorem winsTo_ok (x : List Y6) (n : Nat) (hn : 1 ≤ n) (k : Nat) : (winsTo x n k).length ≤ k ∧ ∀ w ∈ winsTo x n k, w.src < k := by
  induction k with
  | zero => simp [winsTo]
  | succ k ih =>
    rw [winsTo_succ]
    have h : (winOf x n k).length ≤ 1 ∧ ∀ w ∈ winOf x n k, w.src = k := by
      unfold winOf
      cases x[k]? with
      | none => simp
      | some y => simp only; split <;> simp
    refine ⟨by rw [List.length_append]; omega, fun w hw => ?_⟩
    rcases List.mem_append.1 hw with h1 | h1
    · have := ih.2 w h1; omega
    · have := h.2 w h1; omega

theorem winsOk_append (n : Int) : ∀ (a pre b : List Window), winsOk n pre (a ++ b) = (winsOk n pre a && winsOk n (pre ++ a) b)
  | [], pre, b => by simp [winsOk]
  | w :: a, pre, b => by
    simp only [List.cons_append, winsOk]
    rw [winsOk_append n a (pre ++ [w]) b]
    simp [Bool.and_assoc]

theorem winsTo_right (x : List Y6) (n : Nat) (hn : 1 ≤ n) (k : Nat) (hk : k ≤ n) : winsOk n [] (winsTo x n k) = true := by
  induction k with
  | zero => simp [winsTo, winsOk]
  | succ k ih =>
    rw [winsTo_succ, winsOk_append, ih (by omega), Bool.true_and, List.nil_append]
    have hs := (winsTo_ok x n hn k).2
    unfold winOf
    cases x[k]? with
    | none => simp [winsOk]
    | some y =>
      simp only
      split
      · rename_i h
        have p1 := pickM_range (c := y.y4.tdiv 3) (n := n) (by omega)
        have p2 := pickM_range (c := y.y5) (n := 120) (by omega)
        simp only [winsOk, rightWindow, within, Bool.and_eq_true, decide_eq_true_eq, bne_iff_ne, ne_eq, Bool.and_true]
        refine ⟨⟨⟨⟨by omega, by omega⟩, fun e => h.1 e.symm⟩, by omega⟩, ?_⟩
        unfold follows
        cases hl : (winsTo x n k).getLast? with
        | none => rfl
        | some v =>
          have := hs v (List.mem_of_getLast? hl)
          simp only [winLess, Bool.or_eq_true, decide_eq_true_eq]
          left; exact this
      · simp [winsOk]

theorem made_len (x : List Y6) : (made x).steps.length = madeN x := by simp [made, stepsTo]
theorem made_valid (x : List Y6) : valid (made x) = true := by
  have hn := madeN_range x
  have hl := made_len x
  unfold valid
  simp only [Bool.and_eq_true, List.all_eq_true]
  refine ⟨⟨⟨⟨?_, ?_⟩, ?_⟩, ?_⟩, ?_⟩
  · unfold rightMoves made
    simp only [Bool.and_eq_true, decide_eq_true_eq]
    cases x[0]? with
    | none => simp
    | some y =>
      have p1 := pickM_range (c := y.y5) (n := 7) (by omega)
      have p2 := pickM_range (c := y.y5.tdiv 7) (n := 20) (by omega)
      simp only; omega
  · unfold within; simp only [Bool.and_eq_true, decide_eq_true_eq]; omega
  · have := (winsTo_ok x (madeN x) hn.1 (min (madeN x) x.length)).1
    have h2 := Nat.min_le_left (madeN x) x.length
    simp only [made]
    exact decide_eq_true (by have h3 := Nat.le_trans this h2; omega)
  · intro s hs
    rw [hl]
    unfold made stepsTo at hs
    obtain ⟨i, hi, rfl⟩ := List.mem_map.1 hs
    exact stepOf_right x _ i hn.1 hn.2 (List.mem_range.1 hi)
  · rw [hl]
    exact winsTo_right x _ hn.1 _ (Nat.min_le_left _ _)

/-- The flow of the chapter's examples. -/
def exF : Flow := ⟨5, 5, [⟨1, [0], 10, 10, [1, 2], -1, 0⟩, ⟨1, [0], 10, 10, [3], -1, 0⟩, ⟨1, [0], 10, 10, [3], -1, 0⟩, ⟨1, [0], 10, 10, [4], 1, 1⟩, ⟨1, [0], 10, 10, [], -1, 0⟩], []⟩
/-- The same, but without an end. -/
def exG : Flow := ⟨5, 5, [⟨1, [0], 10, 10, [1, 2], -1, 0⟩, ⟨1, [0], 10, 10, [3], -1, 0⟩, ⟨1, [0], 10, 10, [3], -1, 0⟩, ⟨1, [0], 10, 10, [4], 1, 1⟩, ⟨1, [0], 10, 10, [3], -1, 0⟩], []⟩
theorem ex1 : wayM exF 0 3 = ([1], true) := by decide
theorem ex2 : quickest exF 3 3 = (20, true) := by decide
theorem ex3 : finish exF 0 = (45, true) := by decide
theorem ex4 : wayM exF 4 0 = ([], false) := by decide
theorem ex5 : check exF = (0, []) := by decide
theorem ex6 : follow exF 3 = [1, 4] := by decide
theorem ex7 : reach exF 3 = [1, 3, 4] := by decide
theorem ex8 : ends exF = [4] := by decide
theorem ex9 : check exG = (1, [0]) := by decide
end Go.Proofs.Ytijmlfmapfhabaa

/- What the statements say of ways and times, in plain Lean. -/
namespace Go.Proofs.Ytijmlfmapfhabaa

theorem quickest_eq {f : Flow} (hval : valid f = true) {a b : Int} (ha : InR f a) (hb : InR f b) : quickest f a b = match og (ways f a) b with | none => (0, false) | some w => (w.time, true) := by
  unfold quickest; rw [if_pos (given_two.2 ⟨hval, ha, hb⟩)] <;> cases og (ways f a) b <;> rfl
theorem wayM_eq {f : Flow} (hval : valid f = true) {a b : Int} (ha : InR f a) (hb : InR f b) : wayM f a b = match og (ways f a) b with | none => ([], false) | some w => (w.steps, true) := by
  unfold wayM; rw [if_pos (given_two.2 ⟨hval, ha, hb⟩)] <;> cases og (ways f a) b <;> rfl

/-- The quickest way is there exactly if a way is; its time is not greater than any way's. -/
theorem quickest_some {f : Flow} (hval : valid f = true) {a b : Int} (ha : InR f a) (hb : InR f b) {w : Wy} (h : IsWay f a b w) : (quickest f a b).2 = true ∧ (quickest f a b).1 ≤ w.time := by
  obtain ⟨w', hw, hle⟩ := ways_least hval ha h
  rw [quickest_eq hval ha hb, hw]
  exact ⟨rfl, hle.time⟩
theorem quickest_is {f : Flow} (hval : valid f = true) {a b : Int} (ha : InR f a) (hb : InR f b) (h : (quickest f a b).2 = true) : ∃ w, IsWay f a b w ∧ (quickest f a b).1 = w.time := by
  rw [quickest_eq hval ha hb] at h ⊢
  cases ho : og (ways f a) b with
  | none => rw [ho] at h; cases h
  | some w => exact ⟨w, ways_is hval ha hb ho, rfl⟩

theorem IsWay.trans {f : Flow} {a b c : Int} {w u : Wy} (h1 : IsWay f a b w) (h2 : IsWay f b c u) : IsWay f a c ⟨w.time + (stepD f b).min + u.time, w.steps ++ b :: u.steps⟩ := by
  induction h2 with
  | base h =>
    have := IsWay.step h1 h
    unfold ext at this
    simpa [Int.add_assoc] using this
  | step hu hv ih =>
    have := IsWay.step ih hv
    unfold ext at this ⊢
    have e : ∀ p q r s m : Int, p + q + r + s + m = p + q + (r + s + m) := by intros; omega
    simp only [List.append_assoc, List.cons_append, e] at this ⊢
    exact this
theorem IsWay.ge {f : Flow} (hval : valid f = true) {a b : Int} (ha : InR f a) {w : Wy} (h : IsWay f a b w) : f.moveMin ≤ w.time := by
  have hmv := valid_mv hval
  induction h with
  | base h => exact Int.le_refl _
  | step hu hv ih =>
    have hm := valid_min hval (hu.inR hval ha)
    simp only [ext]; omega

theorem quickest_bound {f : Flow} (hval : valid f = true) {a b : Int} (ha : InR f a) (hb : InR f b) : 0 ≤ (quickest f a b).1 ∧ (quickest f a b).1 ≤ 1000000 := by
  rw [quickest_eq hval ha hb]
  cases ho : og (ways f a) b with
  | none => simp
  | some w => exact (ways_bound hval ha hb ho).1

theorem law_first {f : Flow} (hval : valid f = true) {a b : Int} (ha : InR f a) (h : b ∈ follow f a) : quickest f a b = (f.moveMin, true) := by
  rw [follow_eq hval ha] at h
  have hb : InR f b := after_range hval ha.1 ha.2 b h
  have hw := IsWay.base (f := f) h
  obtain ⟨h1, h2⟩ := quickest_some hval ha hb hw
  obtain ⟨w, h3, h4⟩ := quickest_is hval ha hb h1
  have := h3.ge hval ha
  refine Prod.ext ?_ h1
  simp only at h2 ⊢
  omega
theorem law_triangle {f : Flow} (hval : valid f = true) {a b c : Int} (ha : InR f a) (hb : InR f b) (hc : InR f c) (h1 : (quickest f a b).2 = true) (h2 : (quickest f b c).2 = true) :
    (quickest f a c).2 = true ∧ (quickest f a c).1 ≤ (quickest f a b).1 + (stepD f b).min + (quickest f b c).1 := by
  obtain ⟨w, hw, e1⟩ := quickest_is hval ha hb h1
  obtain ⟨u, hu, e2⟩ := quickest_is hval hb hc h2
  have := quickest_some hval ha hc (hw.trans hu)
  rw [e1, e2]
  exact this
end Go.Proofs.Ytijmlfmapfhabaa

/- What the statements say of the time to the end, in plain Lean. -/
namespace Go.Proofs.Ytijmlfmapfhabaa

theorem finTo_spec (f : Flow) (out : List (Option Wy)) (k : Nat) :
    ((finTo f out k).2 = false → (finTo f out k).1 = 0 ∧ ∀ j : Nat, j < k → ∀ w, out.getD j none = some w → isEnd (stepD f j) = false) ∧
    ((finTo f out k).2 = true → (∃ j : Nat, j < k ∧ ∃ w, out.getD j none = some w ∧ isEnd (stepD f j) = true ∧ (finTo f out k).1 = w.time + (stepD f j).min) ∧
      ∀ j : Nat, j < k → ∀ w, out.getD j none = some w → isEnd (stepD f j) = true → (finTo f out k).1 ≤ w.time + (stepD f j).min) := by
  induction k with
  | zero => exact ⟨fun _ => ⟨rfl, fun j hj => by omega⟩, fun h => by cases h⟩
  | succ k ih =>
    obtain ⟨ih1, ih2⟩ := ih
    rw [finTo_succ]
    unfold finStep
    -- nothing new
    have keep : (∀ w, out.getD k none = some w → isEnd (stepD f k) = true → (finTo f out k).2 = true ∧ (finTo f out k).1 ≤ w.time + (stepD f k).min) →
        (((finTo f out k).2 = false → (finTo f out k).1 = 0 ∧ ∀ j : Nat, j < k + 1 → ∀ w, out.getD j none = some w → isEnd (stepD f j) = false) ∧
        ((finTo f out k).2 = true → (∃ j : Nat, j < k + 1 ∧ ∃ w, out.getD j none = some w ∧ isEnd (stepD f j) = true ∧ (finTo f out k).1 = w.time + (stepD f j).min) ∧
          ∀ j : Nat, j < k + 1 → ∀ w, out.getD j none = some w → isEnd (stepD f j) = true → (finTo f out k).1 ≤ w.time + (stepD f j).min)) := by
      intro hk
      refine ⟨fun h => ⟨(ih1 h).1, fun j hj w hw => ?_⟩, fun h => ⟨?_, fun j hj w hw he => ?_⟩⟩
      · by_cases e : j = k
        · subst e
          cases he : isEnd (stepD f j) with
          | false => rfl
          | true => have := (hk w hw he).1; rw [h] at this; cases this
        · exact (ih1 h).2 j (by omega) w hw
      · obtain ⟨j, hj, h'⟩ := (ih2 h).1
        exact ⟨j, by omega, h'⟩
      · by_cases e : j = k
        · subst e; exact (hk w hw he).2
        · exact (ih2 h).2 j (by omega) w hw he
    cases ho : out.getD k none with
    | none => exact keep fun w hw => by rw [ho] at hw; cases hw
    | some w =>
      simp only
      by_cases he : isEnd (stepD f k) = true
      · rw [if_pos he]
        by_cases hc : (finTo f out k).2 = false ∨ w.time + (stepD f k).min < (finTo f out k).1
        · rw [if_pos hc]
          refine ⟨fun h => (by cases h), fun _ => ⟨⟨k, by omega, w, ho, he, rfl⟩, fun j hj u hu heu => ?_⟩⟩
          by_cases e : j = k
          · subst e; rw [ho] at hu; obtain rfl := Option.some.inj hu; exact Int.le_refl _
          · rcases hc with hc | hc
            · have := (ih1 hc).2 j (by omega) u hu
              rw [heu] at this; cases this
            · cases h2 : (finTo f out k).2 with
              | false =>
                have := (ih1 h2).2 j (by omega) u hu
                rw [heu] at this; cases this
              | true =>
                have := (ih2 h2).2 j (by omega) u hu heu
                simp only; omega
        · rw [if_neg hc]
          refine keep fun u hu _ => ?_
          rw [ho] at hu
          obtain rfl := Option.some.inj hu
          simp only [not_or, Bool.not_eq_false] at hc
          exact ⟨hc.1, by omega⟩
      · rw [if_neg he]
        exact keep fun u _ h => absurd h he

theorem finish_end {f : Flow} (hval : valid f = true) {a : Int} (ha : InR f a) (he : isEnd (stepD f a) = true) : finish f a = (0, true) := by
  unfold finish; rw [if_pos (given_one.2 ⟨hval, ha⟩), if_pos he]
theorem finish_mid {f : Flow} (hval : valid f = true) {a : Int} (ha : InR f a) (he : isEnd (stepD f a) = false) : finish f a = finTo f (ways f a) f.steps.length := by
  unfold finish; rw [if_pos (given_one.2 ⟨hval, ha⟩), if_neg (by simp [he])]

theorem finish_some {f : Flow} (hval : valid f = true) {a v : Int} (ha : InR f a) (he : isEnd (stepD f a) = false) {w : Wy} (hw : IsWay f a v w) (hv : isEnd (stepD f v) = true) : (finish f a).2 = true ∧ (finish f a).1 ≤ w.time + (stepD f v).min := by
  rw [finish_mid hval ha he]
  have hvr := hw.inR hval ha
  obtain ⟨w', hw', hle⟩ := ways_least hval ha hw
  obtain ⟨s1, s2⟩ := finTo_spec f (ways f a) f.steps.length
  have hvn : ((v.toNat : Nat) : Int) = v := by have := hvr.1; omega
  have hlt : v.toNat < f.steps.length := by have := hvr.1; have := hvr.2; omega
  have ht := hle.time
  cases h : (finTo f (ways f a) f.steps.length).2 with
  | false =>
    have := (s1 h).2 v.toNat hlt w' hw'
    rw [hvn, hv] at this; cases this
  | true =>
    have := (s2 h).2 v.toNat hlt w' hw' (by rw [hvn]; exact hv)
    rw [hvn] at this
    exact ⟨rfl, by omega⟩
theorem finish_is {f : Flow} (hval : valid f = true) {a : Int} (ha : InR f a) (he : isEnd (stepD f a) = false) (h : (finish f a).2 = true) : ∃ v w, InR f v ∧ IsWay f a v w ∧ isEnd (stepD f v) = true ∧ (finish f a).1 = w.time + (stepD f v).min := by
  rw [finish_mid hval ha he] at h ⊢
  obtain ⟨s1, s2⟩ := finTo_spec f (ways f a) f.steps.length
  obtain ⟨⟨j, hj, w, hw, h1, h2⟩, _⟩ := s2 h
  have hjr : InR f (j : Int) := ⟨by omega, by omega⟩
  exact ⟨j, w, hjr, ways_is hval ha hjr (by unfold og; simpa using hw), h1, h2⟩
theorem finish_none {f : Flow} (hval : valid f = true) {a : Int} (ha : InR f a) (h : (finish f a).2 = false) : (finish f a).1 = 0 := by
  cases he : isEnd (stepD f a) with
  | true => rw [finish_end hval ha he]
  | false =>
    rw [finish_mid hval ha he] at h ⊢
    exact ((finTo_spec f (ways f a) f.steps.length).1 h).1
theorem finish_nonneg {f : Flow} (hval : valid f = true) {a : Int} (ha : InR f a) : 0 ≤ (finish f a).1 := by
  cases he : isEnd (stepD f a) with
  | true => rw [finish_end hval ha he]; exact Int.le_refl _
  | false =>
    cases h : (finish f a).2 with
    | false => rw [finish_none hval ha h]; exact Int.le_refl _
    | true =>
      obtain ⟨v, w, hv, hw, _, e⟩ := finish_is hval ha he h
      have h1 := hw.ge hval ha
      have h2 := valid_mv hval
      have h3 := valid_min hval hv
      omega

/-- A way, taken apart at its beginning. -/
theorem IsWay.front {f : Flow} {a v : Int} {w : Wy} (h : IsWay f a v w) : (v ∈ afterL (stepD f a) ∧ w = ⟨f.moveMin, []⟩) ∨ ∃ n u, n ∈ afterL (stepD f a) ∧ IsWay f n v u ∧ w.time = f.moveMin + (stepD f n).min + u.time := by
  induction h with
  | base h => exact .inl ⟨h, rfl⟩
  | step hu hv ih =>
    rcases ih with ⟨h1, rfl⟩ | ⟨n, u, h1, h2, h3⟩
    · exact .inr ⟨_, _, h1, .base hv, rfl⟩
    · refine .inr ⟨n, _, h1, .step h2 hv, ?_⟩
      simp only [ext]; omega
theorem IsWay.rch {f : Flow} {a v : Int} {w : Wy} (h : IsWay f a v w) : Rch f a v := by
  induction h with
  | base h => exact .step (.refl _) h
  | step _ hv ih => exact .step ih hv
theorem Rch.way {f : Flow} {a v : Int} (h : Rch f a v) : v = a ∨ ∃ w, IsWay f a v w := by
  induction h with
  | refl => exact .inl rfl
  | step _ hv ih =>
    rcases ih with rfl | ⟨w, hw⟩
    · exact .inr ⟨_, .base hv⟩
    · exact .inr ⟨_, .step hw hv⟩

/-- What the statement on Finish reckons. -/
def fsum (f : Flow) (n : Int) : Int := (finish f n).1 + f.moveMin + (stepD f n).min
def bestFin (f : Flow) (acc : Int × Bool) (n : Int) : Int × Bool := if (finish f n).2 = true ∧ (acc.2 = false ∨ fsum f n < acc.1) then (fsum f n, true) else acc
def bestFins (f : Flow) (l : List Int) : Int × Bool := l.foldl (bestFin f) (0, false)
theorem bestFins_snoc (f : Flow) (l : List Int) (n : Int) : bestFins f (l ++ [n]) = bestFin f (bestFins f l) n := by
  unfold bestFins; rw [List.foldl_append]; rfl
theorem list_snoc_ind {α : Type} {p : List α → Prop} (h0 : p []) (h1 : ∀ l x, p l → p (l ++ [x])) (l : List α) : p l := by
  have : ∀ r : List α, p r.reverse := by
    intro r
    induction r with
    | nil => exact h0
    | cons x r ih => rw [List.reverse_cons]; exact h1 _ _ ih
  have h := this l.reverse
  rwa [List.reverse_reverse] at h
theorem bestFins_spec (f : Flow) (l : List Int) :
    ((bestFins f l).2 = false → (bestFins f l).1 = 0 ∧ ∀ n ∈ l, (finish f n).2 = false) ∧
    ((bestFins f l).2 = true → (∃ n ∈ l, (finish f n).2 = true ∧ (bestFins f l).1 = fsum f n) ∧ ∀ n ∈ l, (finish f n).2 = true → (bestFins f l).1 ≤ fsum f n) := by
  refine list_snoc_ind (p := fun l => ((bestFins f l).2 = false → (bestFins f l).1 = 0 ∧ ∀ n ∈ l, (finish f n).2 = false) ∧
    ((bestFins f l).2 = true → (∃ n ∈ l, (finish f n).2 = true ∧ (bestFins f l).1 = fsum f n) ∧ ∀ n ∈ l, (finish f n).2 = true → (bestFins f l).1 ≤ fsum f n)) ?_ ?_ l
  · exact ⟨fun _ => ⟨rfl, by simp⟩, fun h => by cases h⟩
  · rintro l x ⟨ih1, ih2⟩
    rw [bestFins_snoc]
    unfold bestFin
    by_cases hc : (finish f x).2 = true ∧ ((bestFins f l).2 = false ∨ fsum f x < (bestFins f l).1)
    · rw [if_pos hc]
      refine ⟨fun h => (by cases h), fun _ => ⟨⟨x, by simp, hc.1, rfl⟩, fun n hn hf => ?_⟩⟩
      rcases List.mem_append.1 hn with h | h
      · rcases hc.2 with h2 | h2
        · have := (ih1 h2).2 n h; rw [hf] at this; cases this
        · cases h3 : (bestFins f l).2 with
          | false => have := (ih1 h3).2 n h; rw [hf] at this; cases this
          | true => have := (ih2 h3).2 n h hf; simp only; omega
      · rw [List.mem_singleton] at h; subst h; exact Int.le_refl _
    · rw [if_neg hc]
      refine ⟨fun h => ⟨(ih1 h).1, fun n hn => ?_⟩, fun h => ⟨?_, fun n hn hf => ?_⟩⟩
      · rcases List.mem_append.1 hn with h' | h'
        · exact (ih1 h).2 n h'
        · rw [List.mem_singleton] at h'; subst h'
          cases hf : (finish f n).2 with
          | false => rfl
          | true => exact absurd ⟨hf, .inl h⟩ hc
      · obtain ⟨n, hn, h'⟩ := (ih2 h).1
        exact ⟨n, by simp [hn], h'⟩
      · rcases List.mem_append.1 hn with h' | h'
        · exact (ih2 h).2 n h' hf
        · rw [List.mem_singleton] at h'; subst h'
          rcases Int.lt_or_le (fsum f n) (bestFins f l).1 with hl | hl
          · exact absurd ⟨hf, .inr hl⟩ hc
          · exact hl

theorem law_finish {f : Flow} (hval : valid f = true) {a : Int} (ha : InR f a) (he : isEnd (stepD f a) = false) : bestFins f (follow f a) = finish f a := by
  rw [follow_eq hval ha]
  obtain ⟨s1, s2⟩ := bestFins_spec f (afterL (stepD f a))
  have har := after_range hval ha.1 ha.2
  -- from what follows to the step itself
  have h1 : ∀ n ∈ afterL (stepD f a), (finish f n).2 = true → (finish f a).2 = true ∧ (finish f a).1 ≤ fsum f n := by
    intro n hn hf
    have hnr : InR f n := har n hn
    cases hen : isEnd (stepD f n) with
    | true =>
      have := finish_some hval ha he (IsWay.base hn) hen
      unfold fsum
      rw [finish_end hval hnr hen]
      exact ⟨this.1, by simpa using this.2⟩
    | false =>
      obtain ⟨v, w, hv, hw, hev, e⟩ := finish_is hval hnr hen hf
      have := finish_some hval ha he ((IsWay.base hn).trans hw) hev
      unfold fsum
      rw [e]
      refine ⟨this.1, ?_⟩
      have h2 := this.2
      simp only at h2
      omega
  -- and back
  have h2 : (finish f a).2 = true → ∃ n ∈ afterL (stepD f a), (finish f n).2 = true ∧ fsum f n ≤ (finish f a).1 := by
    intro hf
    obtain ⟨v, w, hv, hw, hev, e⟩ := finish_is hval ha he hf
    rcases hw.front with ⟨hva, rfl⟩ | ⟨n, u, hn, hu, ht⟩
    · refine ⟨v, hva, ?_⟩
      unfold fsum
      rw [finish_end hval hv hev, e]
      exact ⟨rfl, by simp⟩
    · have hnr : InR f n := har n hn
      refine ⟨n, hn, ?_⟩
      unfold fsum
      have hg := hu.ge hval hnr
      have hmv := valid_mv hval
      have hmn := valid_min hval hv
      cases hen : isEnd (stepD f n) with
      | true =>
        rw [finish_end hval hnr hen, e, ht]
        exact ⟨rfl, by simp only; omega⟩
      | false =>
        have := finish_some hval hnr hen hu hev
        rw [e, ht]
        exact ⟨this.1, by omega⟩
  cases hf : (finish f a).2 with
  | false =>
    have hb : (bestFins f (afterL (stepD f a))).2 = false := by
      cases hb : (bestFins f (afterL (stepD f a))).2 with
      | false => rfl
      | true =>
        obtain ⟨n, hn, h3, _⟩ := (s2 hb).1
        have := (h1 n hn h3).1
        rw [hf] at this; cases this
    refine Prod.ext ?_ ?_
    · rw [(s1 hb).1, finish_none hval ha hf]
    · rw [hb, hf]
  | true =>
    obtain ⟨n, hn, h3, h4⟩ := h2 hf
    have hb : (bestFins f (afterL (stepD f a))).2 = true := by
      cases hb : (bestFins f (afterL (stepD f a))).2 with
      | true => rfl
      | false => have := (s1 hb).2 n hn; rw [h3] at this; cases this
    obtain ⟨⟨m, hm, h5, h6⟩, h7⟩ := s2 hb
    have h8 := (h1 m hm h5).2
    have h9 := h7 n hn h3
    refine Prod.ext ?_ ?_
    · omega
    · rw [hb, hf]

theorem law_ends {f : Flow} (hval : valid f = true) {a : Int} (ha : InR f a) (he : isEnd (stepD f a) = false) : (reach f a).any (fun m => isEnd (stepD f m)) = (finish f a).2 := by
  rw [Bool.eq_iff_iff, List.any_eq_true]
  constructor
  · rintro ⟨m, hm, hem⟩
    rcases ((mem_reach hval ha).1 hm).way with rfl | ⟨w, hw⟩
    · rw [he] at hem; cases hem
    · exact (finish_some hval ha he hw hem).1
  · intro hf
    obtain ⟨v, w, hv, hw, hev, _⟩ := finish_is hval ha he hf
    exact ⟨v, (mem_reach hval ha).2 hw.rch, hev⟩
end Go.Proofs.Ytijmlfmapfhabaa

/- What adding a step does, and what is found round by round, in plain Lean. -/
namespace Go.Proofs.Ytijmlfmapfhabaa

theorem mem_afterGo {l : List Int} : ∀ {back m : Int}, m ∈ l → m ∈ afterGo back l := by
  induction l with
  | nil => intro back m h; simp at h
  | cons n r ih =>
    intro back m h
    unfold afterGo
    rw [List.mem_append]
    right
    rcases List.mem_cons.1 h with rfl | h
    · exact List.mem_cons_self
    · exact List.mem_cons_of_mem _ (ih h)
theorem back_afterGo {l : List Int} : ∀ {back : Int}, 0 ≤ back → back ∈ afterGo back l := by
  induction l with
  | nil => intro back h; unfold afterGo; rw [if_pos h]; simp
  | cons n r ih =>
    intro back h
    unfold afterGo
    rw [List.mem_append]
    by_cases h1 : back < n
    · left; rw [if_pos ⟨h, h1⟩]; simp
    · right
      by_cases h2 : back ≤ n
      · rw [show back = n from by omega]; exact List.mem_cons_self
      · rw [if_neg h2]; exact List.mem_cons_of_mem _ (ih h)
theorem mem_after {s : Step} {m : Int} : m ∈ afterL s ↔ m ∈ s.next ∨ (m = s.back ∧ 0 ≤ s.back) := by
  constructor
  · exact afterGo_mem
  · rintro (h | ⟨rfl, h⟩)
    · exact mem_afterGo h
    · exact back_afterGo h

/-- A flow in which a step has other ones behind it. -/
def setNext (f : Flow) (at_ : Int) (l : List Int) : Flow := ⟨f.moveMin, f.moveMax, f.steps.set at_.toNat { stepD f at_ with next := l }, f.windows⟩

theorem stepD_setNext {f : Flow} {at_ : Int} {l : List Int} (ha : InR f at_) {u : Int} (hu : InR f u) : stepD (setNext f at_ l) u = if u = at_ then { stepD f at_ with next := l } else stepD f u := by
  unfold setNext
  have h1 : at_.toNat < f.steps.length := by have := ha.1; have := ha.2; omega
  have e : ∀ (g : Flow) (u : Int), stepD g u = g.steps.getD u.toNat ⟨0, [], 0, 0, [], 0, 0⟩ := fun _ _ => rfl
  rw [e]
  simp only [List.getD_eq_getElem?_getD, List.getElem?_set]
  by_cases h : u = at_
  · subst h; simp [h1]
  · have : ¬ at_.toNat = u.toNat := by have := ha.1; have := hu.1; omega
    simp [h, this, e]

theorem setNext_valid {f : Flow} (hval : valid f = true) {at_ : Int} (ha : InR f at_) {l : List Int} (hl : l.length ≤ 4) (hr : ∀ m ∈ l, 0 ≤ m ∧ m < f.steps.length) (hs : l.Pairwise (· < ·)) : valid (setNext f at_ l) = true := by
  have h1 := valid_step hval ha.1 ha.2
  unfold valid at hval ⊢
  simp only [Bool.and_eq_true, List.all_eq_true] at hval ⊢
  obtain ⟨⟨⟨⟨v1, v2⟩, v3⟩, v4⟩, v5⟩ := hval
  have e : (setNext f at_ l).steps.length = f.steps.length := by simp [setNext]
  refine ⟨⟨⟨⟨v1, by rw [e]; exact v2⟩, v3⟩, fun s hs' => ?_⟩, by rw [e]; exact v5⟩
  rw [e]
  unfold setNext at hs'
  simp only at hs'
  rcases List.mem_or_eq_of_mem_set hs' with h | rfl
  · exact v4 s h
  · unfold rightStep at h1 ⊢
    simp only [Bool.and_eq_true, Bool.or_eq_true, decide_eq_true_eq] at h1 ⊢
    obtain ⟨⟨⟨⟨⟨⟨⟨w1, w2, w3⟩, w4⟩, w5⟩, w6⟩, w7⟩, w8⟩, w9⟩ := h1
    exact ⟨⟨⟨⟨⟨⟨⟨w1, w2, by simpa using (by omega : (l.length : Int) ≤ 4)⟩, w4⟩, w5⟩, (ascending_iff _ _ _).2 ⟨fun m hm => by have := hr m hm; omega, hs⟩⟩, w7⟩, w8⟩, w9⟩

/-- More follows every step, and ends stay ends. -/
structure More (f g : Flow) : Prop where
  len : g.steps.length = f.steps.length
  mv : g.moveMin = f.moveMin
  min : ∀ u, InR f u → (stepD g u).min = (stepD f u).min
  ends : ∀ u, InR f u → isEnd (stepD g u) = isEnd (stepD f u)
  sub : ∀ u, InR f u → ∀ v ∈ afterL (stepD f u), v ∈ afterL (stepD g u)

theorem More.inR {f g : Flow} (h : More f g) {u : Int} : InR g u ↔ InR f u := by unfold InR; rw [h.len]

theorem setNext_more {f : Flow} {at_ : Int} (ha : InR f at_) {l : List Int} (hs : ∀ v ∈ (stepD f at_).next, v ∈ l) (hn : (stepD f at_).next ≠ []) : More f (setNext f at_ l) := by
  have hl : l ≠ [] := by
    intro e; subst e
    cases h : (stepD f at_).next with
    | nil => exact hn h
    | cons n r => have := hs n (by rw [h]; simp); simp at this
  refine ⟨by simp [setNext], rfl, fun u hu => ?_, fun u hu => ?_, fun u hu v hv => ?_⟩
  · rw [stepD_setNext ha hu]
    split
    · rename_i h; rw [h]
    · rfl
  · rw [stepD_setNext ha hu]
    split
    · rename_i h; rw [h]
      unfold isEnd
      have h1 : (stepD f at_).next.length ≠ 0 := fun h => hn (List.eq_nil_of_length_eq_zero h)
      have h2 : l.length ≠ 0 := fun h => hl (List.eq_nil_of_length_eq_zero h)
      rw [Bool.eq_iff_iff]
      simp only [beq_iff_eq]
      omega
    · rfl
  · rw [stepD_setNext ha hu]
    split
    · rename_i h
      subst h
      rw [mem_after] at hv ⊢
      rcases hv with h | h
      · exact .inl (hs v h)
      · exact .inr h
    · exact hv

theorem More.way {f g : Flow} (hval : valid f = true) (h : More f g) {a v : Int} (ha : InR f a) {w : Wy} (hw : IsWay f a v w) : IsWay g a v w := by
  induction hw with
  | base hv => rw [← h.mv]; exact .base (h.sub _ ha _ hv)
  | @step u v' w' hu hv ih =>
    have hur := hu.inR hval ha
    have e : ext f w' u = ext g w' u := by
      unfold ext; rw [h.min _ hur, h.mv]
    rw [e]
    exact .step ih (h.sub _ hur _ hv)
theorem More.rch {f g : Flow} (hval : valid f = true) (h : More f g) {a v : Int} (ha : InR f a) (hr : Rch f a v) : Rch g a v := by
  induction hr with
  | refl => exact .refl _
  | step hab hbc ih => exact .step ih (h.sub _ (hab.inR hval ha) _ hbc)

theorem law_added {f g : Flow} (hval : valid f = true) (hg : valid g = true) (h : More f g) {a b : Int} (ha : InR f a) (hb : InR f b) :
    ((quickest f a b).2 = true → (quickest g a b).2 = true ∧ (quickest g a b).1 ≤ (quickest f a b).1) ∧ ((finish f a).2 = true → (finish g a).2 = true ∧ (finish g a).1 ≤ (finish f a).1) ∧ ∀ m ∈ reach f a, m ∈ reach g a := by
  have hag := h.inR.2 ha
  have hbg := h.inR.2 hb
  refine ⟨fun hq => ?_, fun hf => ?_, fun m hm => ?_⟩
  · obtain ⟨w, hw, e⟩ := quickest_is hval ha hb hq
    rw [e]
    exact quickest_some hg hag hbg (h.way hval ha hw)
  · cases he : isEnd (stepD f a) with
    | true =>
      rw [finish_end hval ha he, finish_end hg hag (by rw [h.ends a ha]; exact he)]
      exact ⟨rfl, Int.le_refl _⟩
    | false =>
      obtain ⟨v, w, hv, hw, hev, e⟩ := finish_is hval ha he hf
      have := finish_some hg hag (by rw [h.ends a ha]; exact he) (h.way hval ha hw) (by rw [h.ends v hv]; exact hev)
      rw [h.min v hv] at this
      rw [e]
      exact this
  · exact (mem_reach hg hag).2 (h.rch hval ha ((mem_reach hval ha).1 hm))

/-- The list to which a step is added. -/
def addNext (f : Flow) (at_ add : Int) (k : Nat) : List Int := (List.range k).flatMap fun j : Nat => if (j : Int) = add ∨ (j : Int) ∈ (stepD f at_).next then [(j : Int)] else []
theorem addNext_succ (f : Flow) (at_ add : Int) (k : Nat) : addNext f at_ add (k + 1) = addNext f at_ add k ++ if (k : Int) = add ∨ (k : Int) ∈ (stepD f at_).next then [(k : Int)] else [] := by
  unfold addNext; rw [List.range_succ, List.flatMap_append]; simp
theorem mem_addNext {f : Flow} {at_ add : Int} {k : Nat} {m : Int} : m ∈ addNext f at_ add k ↔ (0 ≤ m ∧ m < k) ∧ (m = add ∨ m ∈ (stepD f at_).next) := by
  unfold addNext
  rw [List.mem_flatMap]
  constructor
  · rintro ⟨j, hj, h⟩
    have := List.mem_range.1 hj
    split at h
    · rw [List.mem_singleton] at h; subst h; exact ⟨by omega, by assumption⟩
    · simp at h
  · rintro ⟨h1, h2⟩
    refine ⟨m.toNat, List.mem_range.2 (by omega), ?_⟩
    have e : ((m.toNat : Nat) : Int) = m := by omega
    rw [e, if_pos h2]
    simp
theorem addNext_sorted (f : Flow) (at_ add : Int) (k : Nat) : (addNext f at_ add k).Pairwise (· < ·) := by
  induction k with
  | zero => simp [addNext]
  | succ k ih =>
    rw [addNext_succ, List.pairwise_append]
    refine ⟨ih, by split <;> simp, fun a ha b hb => ?_⟩
    have h1 := (mem_addNext.1 ha).1
    split at hb
    · rw [List.mem_singleton] at hb; omega
    · simp at hb
theorem addNext_len (f : Flow) (at_ add : Int) (k : Nat) : (addNext f at_ add k).length ≤ k := by
  induction k with
  | zero => simp [addNext]
  | succ k ih => rw [addNext_succ, List.length_append]; split <;> simp <;> omega

/-! ### Round by round -/

def setAll (l : List Int) (o : List Bool) : List Bool := l.foldl (fun o m => o.set m.toNat true) o
def roundStep (f : Flow) (o : List Bool) (s : Int) : List Bool := if o.getD s.toNat false = true then setAll (follow f s) o else o
def roundTo (f : Flow) (o : List Bool) (k : Nat) : List Bool := (List.range k).foldl (fun o (s : Nat) => roundStep f o (s : Int)) o
def roundsTo (f : Flow) (o : List Bool) : Nat → List Bool
  | 0 => o
  | r + 1 => roundTo f (roundsTo f o r) f.steps.length
theorem roundTo_succ (f : Flow) (o : List Bool) (k : Nat) : roundTo f o (k + 1) = roundStep f (roundTo f o k) k := by
  unfold roundTo; rw [List.range_succ, List.foldl_append]; rfl
theorem setAll_len (l : List Int) : ∀ o : List Bool, (setAll l o).length = o.length := by
  induction l with
  | nil => intro o; rfl
  | cons m r ih => intro o; unfold setAll at ih ⊢; rw [List.foldl_cons, ih]; simp
theorem setAll_snoc (l : List Int) (m : Int) (o : List Bool) : setAll (l ++ [m]) o = (setAll l o).set m.toNat true := by
  unfold setAll; rw [List.foldl_append]; rfl
theorem roundStep_len (f : Flow) (o : List Bool) (s : Int) : (roundStep f o s).length = o.length := by
  unfold roundStep; split
  · exact setAll_len _ _
  · rfl
theorem roundTo_len (f : Flow) (o : List Bool) (k : Nat) : (roundTo f o k).length = o.length := by
  induction k with
  | zero => rfl
  | succ k ih => rw [roundTo_succ, roundStep_len, ih]
theorem roundsTo_len (f : Flow) (o : List Bool) (r : Nat) : (roundsTo f o r).length = o.length := by
  induction r with
  | zero => rfl
  | succ r ih => rw [roundsTo, roundTo_len, ih]

theorem isIn_setAll {f : Flow} {l : List Int} (hr : ∀ m ∈ l, InR f m) : ∀ {o : List Bool}, o.length = f.steps.length → ∀ {m : Int}, InR f m → (isIn (setAll l o) m ↔ m ∈ l ∨ isIn o m) := by
  induction l with
  | nil => intro o _ m _; simp [setAll]
  | cons n r ih =>
    intro o hl m hm
    have e : setAll (n :: r) o = setAll r (o.set n.toNat true) := rfl
    rw [e, ih (fun x hx => hr x (by simp [hx])) (by simpa using hl) hm, isIn_set hl (hr n (by simp)) hm, List.mem_cons]
    constructor
    · rintro (h | h | h)
      · exact .inl (.inr h)
      · exact .inl (.inl h)
      · exact .inr h
    · rintro ((h | h) | h)
      · exact .inr (.inl h)
      · exact .inl h
      · exact .inr (.inr h)

theorem follow_inR {f : Flow} (hval : valid f = true) {n : Int} (hn : InR f n) : ∀ m ∈ follow f n, InR f m := fun m hm => by
  rw [follow_eq hval hn] at hm; exact after_range hval hn.1 hn.2 m hm

/-- What a round leaves marked and reached. -/
theorem roundTo_spec {f : Flow} (hval : valid f = true) {o : List Bool} (hl : o.length = f.steps.length) (k : Nat) (hk : k ≤ f.steps.length) :
    (∀ m, InR f m → isIn o m → isIn (roundTo f o k) m) ∧ (∀ m, InR f m → isIn (roundTo f o k) m → ∃ b, InR f b ∧ isIn o b ∧ Rch f b m) ∧
    (∀ s, InR f s → s < k → isIn o s → ∀ m ∈ follow f s, isIn (roundTo f o k) m) := by
  induction k with
  | zero => exact ⟨fun m _ h => h, fun m hm h => ⟨m, hm, h, .refl m⟩, fun s hs h => by have := hs.1; omega⟩
  | succ k ih =>
    obtain ⟨h1, h2, h3⟩ := ih (by omega)
    have hkr : InR f (k : Int) := ⟨by omega, by omega⟩
    have hlk : (roundTo f o k).length = f.steps.length := by rw [roundTo_len, hl]
    have hfr := follow_inR hval hkr
    rw [roundTo_succ]
    unfold roundStep
    by_cases hin : (roundTo f o k).getD (k : Int).toNat false = true
    · rw [if_pos hin]
      have hin' : isIn (roundTo f o k) (k : Int) := hin
      refine ⟨fun m hm h => (isIn_setAll hfr hlk hm).2 (.inr (h1 m hm h)), fun m hm h => ?_, fun s hs hsk hso m hm => ?_⟩
      · rcases (isIn_setAll hfr hlk hm).1 h with h | h
        · obtain ⟨b, hb, hbo, hbr⟩ := h2 k hkr hin'
          rw [follow_eq hval hkr] at h
          exact ⟨b, hb, hbo, .step hbr h⟩
        · exact h2 m hm h
      · have hmr := follow_inR hval hs m hm
        rw [isIn_setAll hfr hlk hmr]
        by_cases e : s = k
        · subst e; exact .inl hm
        · exact .inr (h3 s hs (by omega) hso m hm)
    · rw [if_neg hin]
      refine ⟨h1, h2, fun s hs hsk hso m hm => ?_⟩
      by_cases e : s = k
      · subst e; exact absurd (h1 k hkr hso) hin
      · exact h3 s hs (by omega) hso m hm

theorem count_true_le (o : List Bool) : o.count true ≤ o.length := List.count_le_length
theorem count_mono {o o' : List Bool} (hl : o.length = o'.length) (h : ∀ i : Nat, o.getD i false = true → o'.getD i false = true) : o.count true ≤ o'.count true ∧ (o.count true = o'.count true → o = o') := by
  induction o generalizing o' with
  | nil => cases o' with
    | nil => exact ⟨Nat.le_refl _, fun _ => rfl⟩
    | cons b r => simp at hl
  | cons a r ih =>
    cases o' with
    | nil => simp at hl
    | cons b s =>
      have h0 := h 0
      simp only [List.getD_cons_zero] at h0
      obtain ⟨i1, i2⟩ := ih (o' := s) (by simpa using hl) (fun i hi => by have := h (i + 1); simpa using this (by simpa using hi))
      simp only [List.count_cons]
      cases a <;> cases b
      · refine ⟨by simpa using i1, fun e => ?_⟩
        rw [i2 (by simpa using e)]
      · refine ⟨by simp; omega, fun e => ?_⟩
        simp at e; omega
      · simp at h0
      · refine ⟨by simpa using i1, fun e => ?_⟩
        rw [i2 (by simpa using e)]

theorem isIn_ext {f : Flow} {o o' : List Bool} (hl : o.length = f.steps.length) (hl' : o'.length = f.steps.length) (h : ∀ m, InR f m → (isIn o m ↔ isIn o' m)) : o = o' := by
  apply List.ext_getElem (by rw [hl, hl'])
  intro i h1 h2
  have := h (i : Int) ⟨by omega, by omega⟩
  unfold isIn at this
  simp only [List.getD_eq_getElem?_getD, Int.toNat_natCast, List.getElem?_eq_getElem h1, List.getElem?_eq_getElem h2, Option.getD_some] at this
  cases ha : o[i] <;> cases hb : o'[i] <;> simp_all

theorem law_reached {f : Flow} (hval : valid f = true) {a : Int} (ha : InR f a) : roundsTo f ((List.replicate f.steps.length false).set a.toNat true) f.steps.length = reached f a := by
  have hl0 : ((List.replicate f.steps.length false).set a.toNat true).length = f.steps.length := by simp
  have hst : ∀ m, InR f m → (isIn ((List.replicate f.steps.length false).set a.toNat true) m ↔ m = a) := fun m hm => by
    rw [isIn_set (by simp) ha hm]
    constructor
    · rintro (h | h)
      · exact h
      · exact absurd h (isIn_replicate _ _)
    · exact .inl
  have hlr : ∀ r, (roundsTo f ((List.replicate f.steps.length false).set a.toNat true) r).length = f.steps.length := fun r => by rw [roundsTo_len, hl0]
  generalize hS : roundsTo f ((List.replicate f.steps.length false).set a.toNat true) = S at *
  have hS0 : S 0 = (List.replicate f.steps.length false).set a.toNat true := by rw [← hS]; rfl
  have hSs : ∀ r, S (r + 1) = roundTo f (S r) f.steps.length := fun r => by rw [← hS]; rfl
  have sound : ∀ r m, InR f m → isIn (S r) m → Rch f a m := by
    intro r
    induction r with
    | zero => intro m hm h; rw [hS0, hst m hm] at h; subst h; exact .refl _
    | succ r ih =>
      intro m hm h
      rw [hSs] at h
      obtain ⟨b, hb, hbo, hbr⟩ := (roundTo_spec hval (hlr r) _ (Nat.le_refl _)).2.1 m hm h
      exact (ih b hb hbo).trans hbr
  have mono : ∀ r m, InR f m → isIn (S r) m → isIn (S (r + 1)) m := fun r m hm h => by
    rw [hSs]; exact (roundTo_spec hval (hlr r) _ (Nat.le_refl _)).1 m hm h
  have start : ∀ r, isIn (S r) a := by
    intro r
    induction r with
    | zero => rw [hS0, hst a ha]
    | succ r ih => exact mono r a ha ih
  -- a round that changes nothing has found all
  have closed : ∀ r, S (r + 1) = S r → ∀ m, Rch f a m → isIn (S r) m := by
    intro r he m hm
    induction hm with
    | refl => exact start r
    | step hab hbc ih =>
      have hb := hab.inR hval ha
      rw [← he, hSs]
      exact (roundTo_spec hval (hlr r) _ (Nat.le_refl _)).2.2 _ hb hb.2 ih _ (by rw [follow_eq hval hb]; exact hbc)
  have grows : ∀ r, (∃ q, q < r ∧ S (q + 1) = S q) ∨ r + 1 ≤ (S r).count true := by
    intro r
    induction r with
    | zero =>
      right
      have := start 0
      have h1 : a.toNat < (S 0).length := by rw [hlr]; have := ha.1; have := ha.2; omega
      unfold isIn at this
      rw [List.getD_eq_getElem?_getD, List.getElem?_eq_getElem h1] at this
      exact List.count_pos_iff.2 (List.mem_iff_getElem.2 ⟨_, h1, by simpa using this⟩)
    | succ r ih =>
      rcases ih with ⟨q, hq, he⟩ | h
      · exact .inl ⟨q, by omega, he⟩
      · have hm := count_mono (o := S r) (o' := S (r + 1)) (by rw [hlr, hlr]) (fun i hi => by
          rcases Nat.lt_or_ge i f.steps.length with h1 | h1
          · have := mono r (i : Int) ⟨by omega, by omega⟩ (by unfold isIn; simpa using hi)
            unfold isIn at this; simpa using this
          · rw [List.getD_eq_getElem?_getD, List.getElem?_eq_none (by rw [hlr]; omega)] at hi; simp at hi)
        by_cases he : (S r).count true = (S (r + 1)).count true
        · exact .inl ⟨r, by omega, (hm.2 he).symm⟩
        · right; omega
  have hall : ∀ m, InR f m → Rch f a m → isIn (S f.steps.length) m := by
    rcases grows f.steps.length with ⟨q, hq, he⟩ | h
    · intro m hm hr
      have hq1 := closed q he m hr
      have : ∀ d, isIn (S (q + d)) m := by
        intro d
        induction d with
        | zero => exact hq1
        | succ d ih => exact mono _ m hm ih
      have := this (f.steps.length - q)
      rwa [show q + (f.steps.length - q) = f.steps.length from by omega] at this
    · have := count_true_le (S f.steps.length)
      rw [hlr] at this
      omega
  refine isIn_ext (hlr _) (reached_length f a) fun m hm => ?_
  rw [reached_iff hval ha hm]
  exact ⟨sound _ m hm, hall m hm⟩

theorem afterGo_neg : ∀ (l : List Int) (back : Int), back < 0 → afterGo back l = l
  | [], back, h => by unfold afterGo; rw [if_neg (by omega)]
  | n :: r, back, h => by
    unfold afterGo
    rw [if_neg (by omega), List.nil_append]
    congr 1
    split
    · exact afterGo_neg r _ (by omega)
    · exact afterGo_neg r _ h
theorem afterGo_sorted : ∀ (l : List Int) (back : Int), l.Pairwise (· < ·) → (afterGo back l).Pairwise (· < ·)
  | [], back, _ => by unfold afterGo; split <;> simp
  | n :: r, back, h => by
    unfold afterGo
    obtain ⟨h1, h2⟩ := List.pairwise_cons.1 h
    by_cases hb : back ≤ n
    · rw [if_pos hb, afterGo_neg r (-1) (by omega)]
      split
      · rename_i hc
        rw [List.singleton_append, List.pairwise_cons]
        refine ⟨fun m hm => ?_, h⟩
        rcases List.mem_cons.1 hm with rfl | hm
        · exact hc.2
        · have := h1 m hm; omega
      · exact h
    · rw [if_neg hb, if_neg (by omega), List.nil_append, List.pairwise_cons]
      refine ⟨fun m hm => ?_, afterGo_sorted r back h2⟩
      rcases afterGo_mem hm with hm | ⟨rfl, _⟩
      · exact h1 m hm
      · omega
theorem follow_sorted (f : Flow) (n : Int) : (follow f n).Pairwise (· < ·) := by
  unfold follow
  split
  · rename_i hg
    obtain ⟨hval, hn⟩ := given_one.1 hg
    have h := valid_step hval hn.1 hn.2
    unfold rightStep at h
    simp only [Bool.and_eq_true] at h
    exact afterGo_sorted _ _ ((ascending_iff _ _ _).1 h.1.1.1.2).2
  · simp
theorem sorted_lt {l : List Int} (h : l.Pairwise (· < ·)) {i j : Nat} (hj : j < l.length) (hij : i < j) : l[i] < l[j] := List.pairwise_iff_getElem.1 h i j (by omega) hj hij
end Go.Proofs.Ytijmlfmapfhabaa

/- A way is a way, step by step, in plain Lean. -/
namespace Go.Proofs.Ytijmlfmapfhabaa

/-- The time of a way by its steps. -/
def wtime (f : Flow) (l : List Int) : Int := l.foldl (fun t s => t + f.moveMin + (stepD f s).min) f.moveMin
theorem wtime_snoc (f : Flow) (l : List Int) (s : Int) : wtime f (l ++ [s]) = wtime f l + f.moveMin + (stepD f s).min := by
  unfold wtime; rw [List.foldl_append]; rfl
theorem wtime_bound {f : Flow} (hval : valid f = true) (l : List Int) (h : ∀ s ∈ l, InR f s) : 0 ≤ wtime f l ∧ wtime f l ≤ 20000 * ((l.length : Int) + 1) := by
  have hmv := valid_mv hval
  have : ∀ l : List Int, (∀ s ∈ l, InR f s) → 0 ≤ wtime f l ∧ wtime f l ≤ 20000 * ((l.length : Int) + 1) := by
    intro l
    refine list_snoc_ind (p := fun l => (∀ s ∈ l, InR f s) → 0 ≤ wtime f l ∧ wtime f l ≤ 20000 * ((l.length : Int) + 1)) ?_ ?_ l
    · intro _; unfold wtime; simp; omega
    · intro l s ih h
      have h1 := ih fun x hx => h x (by simp [hx])
      have h2 := valid_min hval (h s (by simp))
      rw [wtime_snoc]
      simp only [List.length_append, List.length_cons, List.length_nil]
      omega
  exact this l h

theorem IsWay.chain {f : Flow} (hval : valid f = true) {a v : Int} (ha : InR f a) {w : Wy} (h : IsWay f a v w) :
    (∀ s ∈ w.steps, InR f s) ∧ w.time = wtime f w.steps ∧ ∀ k, k ≤ w.steps.length → w.steps.getD k v ∈ afterL (stepD f ((w.steps.take k).getLastD a)) := by
  induction h with
  | base h =>
    refine ⟨by simp, rfl, fun k hk => ?_⟩
    obtain rfl : k = 0 := by simpa using hk
    exact h
  | @step u v w hu hv ih =>
    obtain ⟨h1, h2, h3⟩ := ih
    have hur := hu.inR hval ha
    refine ⟨fun s hs => ?_, ?_, fun k hk => ?_⟩
    · rcases List.mem_append.1 hs with h | h
      · exact h1 s h
      · rw [List.mem_singleton] at h; exact h ▸ hur
    · simp only [ext]
      rw [wtime_snoc, h2]; omega
    · simp only [ext, List.length_append, List.length_cons, List.length_nil] at hk ⊢
      rcases Nat.lt_or_ge k w.steps.length with hk1 | hk1
      · have := h3 k (by omega)
        rw [List.getD_eq_getElem?_getD, List.getElem?_append_left hk1, List.take_append_of_le_length (by omega)]
        rw [List.getD_eq_getElem?_getD, List.getElem?_eq_getElem hk1] at this
        rw [List.getElem?_eq_getElem hk1]
        exact this
      · by_cases hk2 : k = w.steps.length
        · have := h3 k (by omega)
          subst hk2
          rw [List.getD_eq_getElem?_getD, List.getElem?_append_right (by omega), List.take_append_of_le_length (by omega)]
          rw [List.getD_eq_getElem?_getD, List.getElem?_eq_none (by omega)] at this
          simpa using this
        · have hk3 : k = w.steps.length + 1 := by omega
          subst hk3
          rw [List.getD_eq_getElem?_getD, List.getElem?_eq_none (by simp), List.take_of_length_le (by simp)]
          simpa using hv

theorem take_snoc_getD (l : List Int) (k : Nat) (h : k < l.length) (v : Int) : l.take (k + 1) = l.take k ++ [l.getD k v] := by
  rw [List.take_succ_eq_append_getElem h, List.getD_eq_getElem?_getD, List.getElem?_eq_getElem h]; rfl

/-- What the statement on ways holds between its rounds: a move from here is a way of that time. -/
def OnWay (f : Flow) (p cur t : Int) : Prop := InR f cur ∧ ∀ n ∈ afterL (stepD f cur), ∃ st, IsWay f p n ⟨t, st⟩
theorem OnWay.start {f : Flow} {p : Int} (hp : InR f p) : OnWay f p p f.moveMin := ⟨hp, fun _ hn => ⟨[], .base hn⟩⟩
theorem OnWay.next {f : Flow} (hval : valid f = true) {p cur t : Int} (h : OnWay f p cur t) {n : Int} (hn : n ∈ afterL (stepD f cur)) : OnWay f p n (t + f.moveMin + (stepD f n).min) := by
  refine ⟨after_range hval h.1.1 h.1.2 n hn, fun m hm => ?_⟩
  obtain ⟨st, hs⟩ := h.2 n hn
  refine ⟨st ++ [n], ?_⟩
  have := IsWay.step hs hm
  unfold ext at this
  simp only at this
  rwa [show t + (stepD f n).min + f.moveMin = t + f.moveMin + (stepD f n).min from by omega] at this
theorem OnWay.some {f : Flow} (hval : valid f = true) {p cur t : Int} (hp : InR f p) (h : OnWay f p cur t) {n : Int} (hn : n ∈ afterL (stepD f cur)) :
    ∃ w : Wy, quickest f p n = (w.time, true) ∧ wayM f p n = (w.steps, true) ∧ IsWay f p n w ∧ w.time ≤ t ∧ w.steps.length ≤ f.steps.length := by
  have hnr : InR f n := after_range hval h.1.1 h.1.2 n hn
  obtain ⟨st, hs⟩ := h.2 n hn
  obtain ⟨w, hw, hle⟩ := ways_least hval hp hs
  refine ⟨w, ?_, ?_, ways_is hval hp hnr hw, hle.time, (ways_bound hval hp hnr hw).2⟩
  · rw [quickest_eq hval hp hnr, hw]
  · rw [wayM_eq hval hp hnr, hw]
end Go.Proofs.Ytijmlfmapfhabaa

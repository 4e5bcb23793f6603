/- Things let go, steps of drawn regions, own results, cuts and clear. -/
import Derived.Test.YtnaeopehmdcplaaGreatDoorYb

/- Things let go, and calls of closures by their contracts. -/
namespace Go.K
open Go Go.RowKit

variable {F : Fence} {P : Program} {N : Nat} {ds : List Deferred} {l l' : Env} {a : Act} {w : World} {Q : Exit → Act → World → Prop} {ops : Array Oper} {os : List Oper} {o : Oper}
variable {g0 g : G} {L : List Ent} {K : Value → World → Prop}

theorem St.fzObj (hs : St g0 g L) {i b : Nat} {cs : List Value} {E : TypeId} {fz : Nat × Nat} (hi : L[i]? = some (.obj b (.cells cs.toArray E fz))) :
  ∃ g', g'.w = g.w ∧ St g0 g' (L.eraseIdx i) ∧ g.le g' ∧ EP g' b 0 cs := by
 refine ⟨g.fz _ (fun b hb => ((hs.own i _ hi).lt b hb).2.1), rfl, hs.fz hi, G.le_fz g _ _, .inr rfl, fun j y hy => ?_⟩
 have h := (hs.own i _ hi).2.1
 show g.w.cell? _ = _
 simp [World.cell?, h, hy]

theorem St.fzRow {α : Type} [El α] (hs : St g0 g L) {i : Nat} {e : TypeId} {v : Value} {n : Nat} {cells : List Value} {xs : List α} (hi : L[i]? = some (.row e (El.k α) v n cells)) (hr : RcL g cells xs) :
  ∃ g', g'.w = g.w ∧ St g0 g' (L.eraseIdx i) ∧ g.le g' ∧ Rs g' v xs := by
 refine ⟨g.fz _ (fun b hb => ((hs.own i _ hi).lt b hb).2.1), rfl, hs.fz hi, G.le_fz g _ _, ?_⟩
 exact (hs.own i _ hi).1.rs hr (G.le_fz g _ _) fun b hb => ⟨.inr hb, rfl⟩

theorem OpR_retV {R : G → Value → Prop} (hF : F.fn = Wd.fn) (hd : F.depth = none) (hal : F.alive = false) {x : Operand} {args : Array Operand} {ts : Array TypeId} {fv : Value} {vs : List Value}
  (ho : o.op = .call { callee := .value x, args, argTypes := ts }) (hx : ev l x = some fv) (ha : evs l args.toList = some vs)
  (h : CallV P fv vs g.w (Ret g R)) (k : ∀ g' v, Fr0 g g' → R g' v → K v g'.w) : OpR F P N ds o l g.w Q K :=
 OpR_callV hF hd hal ho hx ha (h.mono fun _ _ ⟨g', v, hw, hf, he, hr⟩ => ⟨v, he, hw ▸ k g' v hf hr⟩)

theorem CallV_of {R : Ending → World → Prop} {f : FuncId} {first captured : Array Value} {args as : List Value} (hc : Callable P f) (has : first.toList ++ args ++ captured.toList = as) (h : CallsIn Wd 0 P f as.toArray w R) :
  CallV P (.func (.func f) first captured) args w R := ⟨hc, by rw [has]; exact h⟩

/-- Where a test first holds, as a number of the program; -1 where it does nowhere. -/
def fidx {α : Type} (p : α → Bool) (l : List α) : Int := if l.any p then l.findIdx p else -1

theorem fidx_at {α : Type} {p : α → Bool} {l : List α} {k : Nat} (h : k < l.length) (hp : p l[k] = true) (hno : ∀ j (h : j < l.length), j < k → p l[j] = false) : fidx p l = k := by
 unfold fidx
 rw [if_pos (List.any_eq_true.2 ⟨_, List.getElem_mem h, hp⟩)]
 rw [(List.findIdx_eq h).2 ⟨hp, fun j hj => hno j (by omega) hj⟩]
theorem fidx_no {α : Type} {p : α → Bool} {l : List α} (hno : ∀ j (h : j < l.length), p l[j] = false) : fidx p l = -1 := by
 unfold fidx
 rw [if_neg]
 intro h
 obtain ⟨x, hx, hp⟩ := List.any_eq_true.1 h
 obtain ⟨j, hj, rfl⟩ := List.mem_iff_getElem.1 hx
 rw [hno j hj] at hp; cases hp
theorem fidx_nonneg {α : Type} (p : α → Bool) (l : List α) : decide (0 ≤ fidx p l) = l.any p := by
 unfold fidx
 cases l.any p <;> simp
end Go.K

/- Steps of a region that draws its order. -/
namespace Go.K
open Go Go.RowKit

variable {F : Fence} {P : Program} {N : Nat} {ds : List Deferred} {l l' : Env} {a : Act} {w : World} {Q : Exit → Act → World → Prop} {ops : Array Oper} {os : List Oper} {o : Oper}
variable {g0 g gd : G} {L : List Ent} {K : Value → World → Prop} {φs : List Fact} {l0 : Env}

theorem D_cons {i : Nat} (h : StepD F P N ds ops Q φs l0 gd i o) (h2 : StepsD F P N ds ops Q φs l0 gd (i + 1) os) : StepsD F P N ds ops Q φs l0 gd i (o :: os) := ⟨h, h2⟩
theorem D_nil {i : Nat} : StepsD F P N ds ops Q φs l0 gd i [] := trivial

theorem QA_nil {k : Env → Prop} (h : k l) : QA φs g [] l k := h
theorem QA_eq {k : Env → Prop} {j d : Nat} {x : Value} {r : List (Nat × Nat)} (he : fct φs j = Fact.eq x) (h : QA φs g r ((d, x) :: l) k) : QA φs g ((j, d) :: r) l k := by
 intro v hv
 rw [he] at hv
 obtain rfl : v = x := hv
 exact h
theorem QA_any {k : Env → Prop} {j d : Nat} {r : List (Nat × Nat)} (h : ∀ v, (fct φs j).p v g → QA φs g r ((d, v) :: l) k) : QA φs g ((j, d) :: r) l k := h

/-- An operation that yields a known value. -/
def DK (F : Fence) (P : Program) (N : Nat) (ds : List Deferred) (ops : Array Oper) (Q : Exit → Act → World → Prop) (φ : Fact) (g' : G) (o : Oper) (env : Env) : Prop :=
 match gdx ops env o.guard with
 | some true => OpR F P N ds o env g'.w Q fun v w' => ∃ g'', g''.w = w' ∧ Fr0 g' g'' ∧ φ.p v g''
 | some false => φ.p undef g'
 | none => False

theorem D_step2 {i : Nat} {js : List (Nat × Nat)} (hj : needs ops o = js) (h : ∀ g', Fr0 gd g' → QA φs g' js l0 (DK F P N ds ops Q (fct φs i) g' o)) : StepD F P N ds ops Q φs l0 gd i o := by
 subst hj; exact h
theorem D_no {φ : Fact} (hg : gdx ops l o.guard = some false) (h : φ.p undef g) : DK F P N ds ops Q φ g o l := by unfold DK; rw [hg]; exact h
theorem D_yes {φ : Fact} (hg : gdx ops l o.guard = some true) (h : OpR F P N ds o l g.w Q fun v w' => ∃ g'', g''.w = w' ∧ Fr0 g g'' ∧ φ.p v g'') : DK F P N ds ops Q φ g o l := by unfold DK; rw [hg]; exact h

/-! ### The same in one line -/
theorem D_s {i : Nat} {js : List (Nat × Nat)} (hj : needs ops o = js) (h : ∀ g', Fr0 gd g' → QA φs g' js l0 (DK F P N ds ops Q (fct φs i) g' o)) (h2 : StepsD F P N ds ops Q φs l0 gd (i + 1) os) : StepsD F P N ds ops Q φs l0 gd i (o :: os) := ⟨D_step2 hj h, h2⟩
theorem DPu {tb : Tb} (htb : tb.ok P) {φ : Fact} {v : Value} (hg : gdx ops l o.guard = some true) (hv : pev tb l o.op = some v) (hp : φ = Fact.eq v) : DK F P N ds ops Q φ g o l :=
 D_yes hg (OpR_pure tb htb hv ⟨g, rfl, Fr0.refl g, by rw [hp]; rfl⟩)
theorem DNo {φ : Fact} (hg : gdx ops l o.guard = some false) (hp : φ = Fact.eq undef) : DK F P N ds ops Q φ g o l := D_no hg (by rw [hp]; rfl)
theorem DLo {tb : Tb} (htb : tb.ok P) (i : Nat) {φ : Fact} {t : Nat} {x : Operand} {cs : List Value} {off b : Nat} {T : TypeId} {fz : Nat × Nat} {v : Value} (hg : gdx ops l o.guard = some true) (ho : o.op = .load t x) (hs : St g0 g L)
  (hi : L[i]? = some (.obj b (.cells cs.toArray T fz))) (hx : ev l x = some (.pointer (some ⟨b, off, none⟩))) (hv : ldl tb t cs off = some v) (hp : φ = Fact.eq v) : DK F P N ds ops Q φ g o l :=
 D_yes hg (OpR_loadO htb i ho hs hi hx hv ⟨g, rfl, Fr0.refl g, by rw [hp]; rfl⟩)
theorem DLe {tb : Tb} (htb : tb.ok P) (off : Nat) {φ : Fact} {t : Nat} {x : Operand} {ys : List Value} {b p : Nat} {v : Value} (hg : gdx ops l o.guard = some true) (ho : o.op = .load t x) (he : EP g b p ys)
  (hx : ev l x = some (.pointer (some ⟨b, p + off, none⟩))) (hv : ldl tb t ys off = some v) (hp : φ = Fact.eq v) : DK F P N ds ops Q φ g o l :=
 D_yes hg (OpR_loadE htb off ho he hx hv ⟨g, rfl, Fr0.refl g, by rw [hp]; rfl⟩)

/-! ### From the end of one part to the next one -/
variable {Q' : Exit → Act → World → Prop} {c y : Code} {J : Act → World → Prop} {id : Nat}
theorem T_then (h : W F P N ds y Q' l w) : ∀ a, Fr N ds l a → Exit.then (y.wpIn F 0 P Q') Q .normal a w := h
theorem T_wp (h : W F P N ds c Q l w) : ∀ a, Fr N ds l a → c.wpIn F 0 P Q a w := h
theorem T_bn (h : ∀ a, Fr N ds l a → Q .normal a w) : ∀ a, Fr N ds l a → Exit.inBlock id Q .normal a w := h
theorem T_bx (h : ∀ a, Fr N ds l a → Q .normal a w) : ∀ a, Fr N ds l a → Exit.inBlock id Q (.exit id) a w := fun a ha => by
 unfold Exit.inBlock; simp only [if_true]; exact h a ha
theorem T_tx (h : ∀ a, Fr N ds l a → Q (.exit id) a w) : ∀ a, Fr N ds l a → Exit.then J Q (.exit id) a w := h
theorem T_tr (h : ∀ a, Fr N ds l a → Q .ret a w) : ∀ a, Fr N ds l a → Exit.then J Q .ret a w := h
theorem T_br (h : ∀ a, Fr N ds l a → Q .ret a w) : ∀ a, Fr N ds l a → Exit.inBlock id Q .ret a w := h
end Go.K

/- Results that are the caller's own; leaving a function in which a range over a function stood. -/
namespace Go.K
open Go Go.RowKit

variable {F : Fence} {P : Program} {N : Nat} {ds : List Deferred} {l l' : Env} {a : Act} {w : World} {Q : Exit → Act → World → Prop} {ops : Array Oper} {os : List Oper} {o : Oper}
variable {g0 g g' : G} {L : List Ent} {K : Value → World → Prop} {R : Ending → World → Prop}

/-- The result is a slice of the caller's own. -/
def OwnR {α : Type} [El α] (e : TypeId) (g : G) (xs : List α) (g' : G) (v : Value) : Prop := ∃ cells, Ent.holds g.w.heap.size g' (.row e (El.k α) v xs.length cells) ∧ RcL g' cells xs

theorem St.getOwn (hs : St g0 g L) (hf : Fr0 g g') {e : Ent} (h : e.holds g.w.heap.size g') : St g0 g' (e :: L) := by
 have hs2 := hs.call hf
 refine ⟨hs2.below, hs2.im, ?_, ?_⟩
 ·intro j x hj
  cases j with
  | zero =>
   simp only [List.getElem?_cons_zero, Option.some.injEq] at hj
   subst hj
   cases e with
   | obj b o => exact ⟨Nat.le_trans hs.below.size h.1, h.2⟩
   | row t k v n xs =>
    refine ⟨⟨h.1.1, ?_⟩, h.2⟩
    rcases h.1.2 with h' | ⟨b, off, cap, cur, e1, hB, h'⟩
    ·exact .inl h'
    ·exact .inr ⟨b, off, cap, cur, e1, Nat.le_trans hs.below.size hB, h'⟩
  | succ j => exact hs2.own j x (by simpa using hj)
 ·intro j k x y hjk hj hk b hbx hby
  cases j with
  | zero =>
   cases k with
   | zero => exact hjk rfl
   | succ k =>
    simp only [List.getElem?_cons_zero, Option.some.injEq] at hj
    subst hj
    have h1 := (h.lt b hbx).1
    have h2 := ((hs.own k y (by simpa using hk)).lt b hby).2.1
    omega
  | succ j =>
   cases k with
   | zero =>
    simp only [List.getElem?_cons_zero, Option.some.injEq] at hk
    subst hk
    have h1 := (h.lt b hby).1
    have h2 := ((hs.own j x (by simpa using hj)).lt b hbx).2.1
    omega
   | succ k => exact hs2.sep j k x y (by omega) (by simpa using hj) (by simpa using hk) b hbx hby

theorem OwnR.nil {α : Type} [El α] (e : TypeId) (g g' : G) (a : Option Addr) : OwnR e g ([] : List α) g' (.slice a 0 0) :=
 ⟨[], ⟨Row.nil _ _ _ _ _, fun b hb => by rw [obk_zero] at hb; cases hb⟩, rfl⟩

/-- An own result, only read from now on. -/
theorem St.ownRs {α : Type} [El α] (hs : St g0 g L) (hf : Fr0 g g') {e : TypeId} {v : Value} {xs : List α} (h : OwnR e g xs g' v) : ∃ g2, g2.w = g'.w ∧ St g0 g2 L ∧ g'.le g2 ∧ Rs g2 v xs := by
 obtain ⟨cells, h1, h2⟩ := h
 obtain ⟨g2, e1, e2, e3, e4⟩ := (hs.getOwn hf h1).fzRow (i := 0) rfl h2
 exact ⟨g2, e1, e2, e3, e4⟩

theorem RcL.ints (g : G) : ∀ xs : List Int, RcL g (xs.map (Value.int .i64)) xs
 | [] => rfl
 | x :: xs => ⟨[.int .i64 x], xs.map (Value.int .i64), rfl, rfl, RcL.ints g xs⟩
end Go.K

/- clear, a cut of an own slice to its first elements, and lending an own slice to a reader. -/
namespace Go.K
open Go Go.RowKit

variable {F : Fence} {P : Program} {N : Nat} {ds : List Deferred} {l l' : Env} {a : Act} {w : World} {Q : Exit → Act → World → Prop} {ops : Array Oper} {os : List Oper} {o : Oper}
variable {g0 g g' : G} {L : List Ent} {K : Value → World → Prop}

end Go.K

/- Things let go, steps of drawn regions, own results, cuts and clear. -/
import Derived.Test.YtnggomfbgmlkhaaGreatDoorYb

/- Things let go, and calls of closures by their contracts. -/
namespace Go.K
open Go Go.RowKit

variable {F : Fence} {P : Program} {N : Nat} {ds : List Deferred} {l l' : Env} {a : Act} {w : World} {Q : Exit → Act → World → Prop} {ops : Array Oper} {os : List Oper} {o : Oper}
variable {g0 g : G} {L : List Ent} {K : Value → World → Prop}

theorem St.fzObj (hs : St g0 g L) {i b : Nat} {cs : List Value} {E : TypeId} {fz : Nat × Nat} (hi : L[i]? = some (.obj b (.cells cs.toArray E fz))) :
  ∃ g', g'.w = g.w ∧ St g0 g' (L.eraseIdx i) ∧ g.le g' ∧ EP g' b 0 cs := by
 refine ⟨g.fz _ (fun b hb => ((hs.own i _ hi).lt b hb).2.1), rfl, hs.fz hi, G.le_fz g _ _, .inr rfl, fun j y hy => ?_⟩
 have h := (hs.own i _ hi).2.1
 show g.w.cell? _ = _
 simp [World.cell?, h, hy]

theorem St.fzRow {α : Type} [El α] (hs : St g0 g L) {i : Nat} {e : TypeId} {v : Value} {n : Nat} {cells : List Value} {xs : List α} (hi : L[i]? = some (.row e (El.k α) v n cells)) (hr : RcL g cells xs) :
  ∃ g', g'.w = g.w ∧ St g0 g' (L.eraseIdx i) ∧ g.le g' ∧ Rs g' v xs := by
 refine ⟨g.fz _ (fun b hb => ((hs.own i _ hi).lt b hb).2.1), rfl, hs.fz hi, G.le_fz g _ _, ?_⟩
 exact (hs.own i _ hi).1.rs hr (G.le_fz g _ _) fun b hb => ⟨.inr hb, rfl⟩

theorem OpR_retV {R : G → Value → Prop} (hF : F.fn = Wd.fn) (hd : F.depth = none) (hal : F.alive = false) {x : Operand} {args : Array Operand} {ts : Array TypeId} {fv : Value} {vs : List Value}
  (ho : o.op = .call { callee := .value x, args, argTypes := ts }) (hx : ev l x = some fv) (ha : evs l args.toList = some vs)
  (h : CallV P fv vs g.w (Ret g R)) (k : ∀ g' v, Fr0 g g' → R g' v → K v g'.w) : OpR F P N ds o l g.w Q K :=
 OpR_callV hF hd hal ho hx ha (h.mono fun _ _ ⟨g', v, hw, hf, he, hr⟩ => ⟨v, he, hw ▸ k g' v hf hr⟩)

theorem CallV_of {R : Ending → World → Prop} {f : FuncId} {first captured : Array Value} {args as : List Value} (hc : Callable P f) (has : first.toList ++ args ++ captured.toList = as) (h : CallsIn Wd 0 P f as.toArray w R) :
  CallV P (.func (.func f) first captured) args w R := ⟨hc, by rw [has]; exact h⟩

/-- Where a test first holds, as a number of the program; -1 where it does nowhere. -/
def fidx {α : Type} (p : α → Bool) (l : List α) : Int := if l.any p then l.findIdx p else -1

theorem fidx_at {α : Type} {p : α → Bool} {l : List α} {k : Nat} (h : k < l.length) (hp : p l[k] = true) (hno : ∀ j (h : j < l.length), j < k → p l[j] = false) : fidx p l = k := by
 unfold fidx
 rw [if_pos (List.any_eq_true.2 ⟨_, List.getElem_mem h, hp⟩)]
 rw [(List.findIdx_eq h).2 ⟨hp, fun j hj => hno j (by omega) hj⟩]
theorem fidx_no {α : Type} {p : α → Bool} {l : List α} (hno : ∀ j (h : j < l.length), p l[j] = false) : fidx p l = -1 := by
 unfold fidx
 rw [if_neg]
 intro h
 obtain ⟨x, hx, hp⟩ := List.any_eq_true.1 h
 obtain ⟨j, hj, rfl⟩ := List.mem_iff_getElem.1 hx
 rw [hno j hj] at hp; cases hp
theorem fidx_nonneg {α : Type} (p : α → Bool) (l : List α) : decide (0 ≤ fidx p l) = l.any p := by
 unfold fidx
 cases l.any p <;> simp
end Go.K

/- Steps of a region that draws its order. -/
namespace Go.K
open Go Go.RowKit

variable {F : Fence} {P : Program} {N : Nat} {ds : List Deferred} {l l' : Env} {a : Act} {w : World} {Q : Exit → Act → World → Prop} {ops : Array Oper} {os : List Oper} {o : Oper}
variable {g0 g gd : G} {L : List Ent} {K : Value → World → Prop} {φs : List Fact} {l0 : Env}

theorem D_cons {i : Nat} (h : StepD F P N ds ops Q φs l0 gd i o) (h2 : StepsD F P N ds ops Q φs l0 gd (i + 1) os) : StepsD F P N ds ops Q φs l0 gd i (o :: os) := ⟨h, h2⟩
theorem D_nil {i : Nat} : StepsD F P N ds ops Q φs l0 gd i [] := trivial

theorem QA_nil {k : Env → Prop} (h : k l) : QA φs g [] l k := h
theorem QA_eq {k : Env → Prop} {j d : Nat} {x : Value} {r : List (Nat × Nat)} (he : fct φs j = Fact.eq x) (h : QA φs g r ((d, x) :: l) k) : QA φs g ((j, d) :: r) l k := by
 intro v hv
 rw [he] at hv
 obtain rfl : v = x := hv
 exact h
theorem QA_any {k : Env → Prop} {j d : Nat} {r : List (Nat × Nat)} (h : ∀ v, (fct φs j).p v g → QA φs g r ((d, v) :: l) k) : QA φs g ((j, d) :: r) l k := h

/-- An operation that yields a known value. -/
def DK (F : Fence) (P : Program) (N : Nat) (ds : List Deferred) (ops : Array Oper) (Q : Exit → Act → World → Prop) (φ : Fact) (g' : G) (o : Oper) (env : Env) : Prop :=
 match gdx ops env o.guard with
 | some true => OpR F P N ds o env g'.w Q fun v w' => ∃ g'', g''.w = w' ∧ Fr0 g' g'' ∧ φ.p v g''
 | some false => φ.p undef g'
 | none => False

theorem D_step2 {i : Nat} {js : List (Nat × Nat)} (hj : needs ops o = js) (h : ∀ g', Fr0 gd g' → QA φs g' js l0 (DK F P N ds ops Q (fct φs i) g' o)) : StepD F P N ds ops Q φs l0 gd i o := by
 subst hj; exact h
theorem D_no {φ : Fact} (hg : gdx ops l o.guard = some false) (h : φ.p undef g) : DK F P N ds ops Q φ g o l := by unfold DK; rw [hg]; exact h
theorem D_yes {φ : Fact} (hg : gdx ops l o.guard = some true) (h : OpR F P N ds o l g.w Q fun v w' => ∃ g'', g''.w = w' ∧ Fr0 g g'' ∧ φ.p v g'') : DK F P N ds ops Q φ g o l := by unfold DK; rw [hg]; exact h

/-! ### The same in one line -/
theorem D_s {i : Nat} {js : List (Nat × Nat)} (hj : needs ops o = js) (h : ∀ g', Fr0 gd g' → QA φs g' js l0 (DK F P N ds ops Q (fct φs i) g' o)) (h2 : StepsD F P N ds ops Q φs l0 gd (i + 1) os) : StepsD F P N ds ops Q φs l0 gd i (o :: os) := ⟨D_step2 hj h, h2⟩
theorem DPu {tb : Tb} (htb : tb.ok P) {φ : Fact} {v : Value} (hg : gdx ops l o.guard = some true) (hv : pev tb l o.op = some v) (hp : φ = Fact.eq v) : DK F P N ds ops Q φ g o l :=
 D_yes hg (OpR_pure tb htb hv ⟨g, rfl, Fr0.refl g, by rw [hp]; rfl⟩)
theorem DNo {φ : Fact} (hg : gdx ops l o.guard = some false) (hp : φ = Fact.eq undef) : DK F P N ds ops Q φ g o l := D_no hg (by rw [hp]; rfl)
theorem DLo {tb : Tb} (htb : tb.ok P) (i : Nat) {φ : Fact} {t : Nat} {x : Operand} {cs : List Value} {off b : Nat} {T : TypeId} {fz : Nat × Nat} {v : Value} (hg : gdx ops l o.guard = some true) (ho : o.op = .load t x) (hs : St g0 g L)
  (hi : L[i]? = some (.obj b (.cells cs.toArray T fz))) (hx : ev l x = some (.pointer (some ⟨b, off, none⟩))) (hv : ldl tb t cs off = some v) (hp : φ = Fact.eq v) : DK F P N ds ops Q φ g o l :=
 D_yes hg (OpR_loadO htb i ho hs hi hx hv ⟨g, rfl, Fr0.refl g, by rw [hp]; rfl⟩)
theorem DLe {tb : Tb} (htb : tb.ok P) (off : Nat) {φ : Fact} {t : Nat} {x : Operand} {ys : List Value} {b p : Nat} {v : Value} (hg : gdx ops l o.guard = some true) (ho : o.op = .load t x) (he : EP g b p ys)
  (hx : ev l x = some (.pointer (some ⟨b, p + off, none⟩))) (hv : ldl tb t ys off = some v) (hp : φ = Fact.eq v) : DK F P N ds ops Q φ g o l :=
 D_yes hg (OpR_loadE htb off ho he hx hv ⟨g, rfl, Fr0.refl g, by rw [hp]; rfl⟩)

/-! ### From the end of one part to the next one -/
variable {Q' : Exit → Act → World → Prop} {c y : Code} {J : Act → World → Prop} {id : Nat}
theorem T_then (h : W F P N ds y Q' l w) : ∀ a, Fr N ds l a → Exit.then (y.wpIn F 0 P Q') Q .normal a w := h
theorem T_wp (h : W F P N ds c Q l w) : ∀ a, Fr N ds l a → c.wpIn F 0 P Q a w := h
theorem T_bn (h : ∀ a, Fr N ds l a → Q .normal a w) : ∀ a, Fr N ds l a → Exit.inBlock id Q .normal a w := h
theorem T_bx (h : ∀ a, Fr N ds l a → Q .normal a w) : ∀ a, Fr N ds l a → Exit.inBlock id Q (.exit id) a w := fun a ha => by
 unfold Exit.inBlock; simp only [if_true]; exact h a ha
theorem T_by {id' : Nat} (hne : Nat.beq id' id = false) (h : ∀ a, Fr N ds l a → Q (.exit id') a w) : ∀ a, Fr N ds l a → Exit.inBlock id Q (.exit id') a w := fun a ha => by
 unfold Exit.inBlock
 simp only
 rw [if_neg (fun e => by subst e; simp at hne)]; exact h a ha
theorem T_tx (h : ∀ a, Fr N ds l a → Q (.exit id) a w) : ∀ a, Fr N ds l a → Exit.then J Q (.exit id) a w := h
theorem T_tr (h : ∀ a, Fr N ds l a → Q .ret a w) : ∀ a, Fr N ds l a → Exit.then J Q .ret a w := h
theorem T_br (h : ∀ a, Fr N ds l a → Q .ret a w) : ∀ a, Fr N ds l a → Exit.inBlock id Q .ret a w := h
end Go.K

/- Results that are the caller's own; leaving a function in which a range over a function stood. -/
namespace Go.K
open Go Go.RowKit

variable {F : Fence} {P : Program} {N : Nat} {ds : List Deferred} {l l' : Env} {a : Act} {w : World} {Q : Exit → Act → World → Prop} {ops : Array Oper} {os : List Oper} {o : Oper}
variable {g0 g g' : G} {L : List Ent} {K : Value → World → Prop} {R : Ending → World → Prop}

theorem retM1 {fn : Func} {t D : Nat} {v : Value} (i : Nat) (hr : fn.results = #[.tmp t]) (hs : St g0 g L) (hi : L[i]? = some (.obj D defO)) (hl : lk l t = some v)
  (hR : ∀ g', St g0 g' (L.eraseIdx i) → g.le g' → R (.returned v) g'.w) (a : Act) (ha : Fr N [⟨.collected D, #[]⟩] l a) : bodyPostM Wd 0 P fn R .ret a g.w := by
 show LeavesInM Wd 0 P fn a.tmps R a.defers .returning g.w
 rw [ha.defers]
 have hp := hs.po (o' := .deferred none) hi
 refine leavesM hs hi ⟨_, results_tmp hr _ _ _, ?_⟩
 have : a.tmps.getD t undef = v := by simp [Array.getD_eq_getD_getElem?, ha.get t v hl]
 rw [this]
 refine hR _ ?_ hp.2
 have h2 := hp.1.drop i
 rwa [show (L.set i (Ent.obj D (.deferred none))).eraseIdx i = L.eraseIdx i from by
  apply List.ext_getElem?
  intro j
  simp only [List.getElem?_eraseIdx, List.getElem?_set]
  split <;> (rw [if_neg (by omega)])] at h2

theorem endM0 {fn : Func} {D : Nat} (i : Nat) (hr : fn.results = #[]) (hs : St g0 g L) (hi : L[i]? = some (.obj D defO))
  (hR : ∀ g', St g0 g' (L.eraseIdx i) → g.le g' → R (.returned (.tuple #[])) g'.w) (a : Act) (ha : Fr N [⟨.collected D, #[]⟩] l a) : bodyPostM Wd 0 P fn R .normal a g.w := by
 show LeavesInM Wd 0 P fn a.tmps R a.defers .returning g.w
 rw [ha.defers]
 have hp := hs.po (o' := .deferred none) hi
 refine leavesM hs hi ⟨_, results_none hr _ _ _, ?_⟩
 refine hR _ ?_ hp.2
 have h2 := hp.1.drop i
 rwa [show (L.set i (Ent.obj D (.deferred none))).eraseIdx i = L.eraseIdx i from by
  apply List.ext_getElem?
  intro j
  simp only [List.getElem?_eraseIdx, List.getElem?_set]
  split <;> (rw [if_neg (by omega)])] at h2

/-- The result is a slice of the caller's own. -/
def OwnR {α : Type} [El α] (e : TypeId) (g : G) (xs : List α) (g' : G) (v : Value) : Prop := ∃ cells, Ent.holds g.w.heap.size g' (.row e (El.k α) v xs.length cells) ∧ RcL g' cells xs

theorem St.getOwn (hs : St g0 g L) (hf : Fr0 g g') {e : Ent} (h : e.holds g.w.heap.size g') : St g0 g' (e :: L) := by
 have hs2 := hs.call hf
 refine ⟨hs2.below, hs2.im, ?_, ?_⟩
 ·intro j x hj
  cases j with
  | zero =>
   simp only [List.getElem?_cons_zero, Option.some.injEq] at hj
   subst hj
   cases e with
   | obj b o => exact ⟨Nat.le_trans hs.below.size h.1, h.2⟩
   | row t k v n xs =>
    refine ⟨⟨h.1.1, ?_⟩, h.2⟩
    rcases h.1.2 with h' | ⟨b, off, cap, cur, e1, hB, h'⟩
    ·exact .inl h'
    ·exact .inr ⟨b, off, cap, cur, e1, Nat.le_trans hs.below.size hB, h'⟩
  | succ j => exact hs2.own j x (by simpa using hj)
 ·intro j k x y hjk hj hk b hbx hby
  cases j with
  | zero =>
   cases k with
   | zero => exact hjk rfl
   | succ k =>
    simp only [List.getElem?_cons_zero, Option.some.injEq] at hj
    subst hj
    have h1 := (h.lt b hbx).1
    have h2 := ((hs.own k y (by simpa using hk)).lt b hby).2.1
    omega
  | succ j =>
   cases k with
   | zero =>
    simp only [List.getElem?_cons_zero, Option.some.injEq] at hk
    subst hk
    have h1 := (h.lt b hby).1
    have h2 := ((hs.own j x (by simpa using hj)).lt b hbx).2.1
    omega
   | succ k => exact hs2.sep j k x y (by omega) (by simpa using hj) (by simpa using hk) b hbx hby

theorem St.toOwn {α : Type} [El α] (hs : St g0 g L) {i : Nat} {e : TypeId} {v : Value} {n : Nat} {cells : List Value} {xs : List α} (hi : L[i]? = some (.row e (El.k α) v n cells)) (hr : RcL g cells xs) : OwnR e g0 xs g v := by
 have h := hs.own i _ hi
 have hn : n = xs.length := by
  have h1 := h.1.1
  have hp := El.pos (α := α)
  rw [hr.len] at h1
  exact (Nat.eq_of_mul_eq_mul_right hp h1).symm
 subst hn
 exact ⟨cells, h, hr⟩

theorem OwnR.nil {α : Type} [El α] (e : TypeId) (g g' : G) (a : Option Addr) : OwnR e g ([] : List α) g' (.slice a 0 0) :=
 ⟨[], ⟨Row.nil _ _ _ _ _, fun b hb => by rw [obk_zero] at hb; cases hb⟩, rfl⟩

/-- An own result, only read from now on. -/
theorem St.ownRs {α : Type} [El α] (hs : St g0 g L) (hf : Fr0 g g') {e : TypeId} {v : Value} {xs : List α} (h : OwnR e g xs g' v) : ∃ g2, g2.w = g'.w ∧ St g0 g2 L ∧ g'.le g2 ∧ Rs g2 v xs := by
 obtain ⟨cells, h1, h2⟩ := h
 obtain ⟨g2, e1, e2, e3, e4⟩ := (hs.getOwn hf h1).fzRow (i := 0) rfl h2
 exact ⟨g2, e1, e2, e3, e4⟩

theorem RcL.ints (g : G) : ∀ xs : List Int, RcL g (xs.map (Value.int .i64)) xs
 | [] => rfl
 | x :: xs => ⟨[.int .i64 x], xs.map (Value.int .i64), rfl, rfl, RcL.ints g xs⟩
end Go.K

/- clear, a cut of an own slice to its first elements, and lending an own slice to a reader. -/
namespace Go.K
open Go Go.RowKit

variable {F : Fence} {P : Program} {N : Nat} {ds : List Deferred} {l l' : Env} {a : Act} {w : World} {Q : Exit → Act → World → Prop} {ops : Array Oper} {os : List Oper} {o : Oper}
variable {g0 g g' : G} {L : List Ent} {K : Value → World → Prop}

theorem zero_list (z : Array Value) (n : Nat) (hz : 0 < z.size) : (Builtin.zeroCells z n).toList = (List.replicate n z.toList).flatten := made_list z n hz

/-- 'clear(s[a:])' of a slice of the call's own. -/
theorem OpR_clear {tb : Tb} (htb : tb.ok P) (i : Nat) {t e : Nat} {ti ei : TI} {k : Nat} {x : Operand} {b p m cap n c' a : Nat} {ad : Option Addr} {xs xs' : List Value}
  (ho : o.op = .call { callee := .builtin .clear, args := #[x], argTypes := #[t] }) (hs : St g0 g L) (hL : L[i]? = some (.row e k (.slice (some ⟨b, p, none⟩) n cap) n xs)) (hx : ev l x = some (.slice ad m c'))
  (hi : tl tb t = some ti) (hd : ti.desc = .slice e) (hj : tl tb e = some ei) (hk : ei.size = k) (hpos : 0 < k) (hz : ei.zero.cells.size = k) (h1 : ei.zero.cells.toList.all Value.oneCell' = true)
  (had : m = 0 ∨ ad = some ⟨b, p + a * k, none⟩) (ham : a + m = n) (hxs : xs' = xs.take (a * k) ++ (List.replicate m ei.zero.cells.toList).flatten)
  (kk : ∀ g', St g0 g' (L.set i (.row e k (.slice (some ⟨b, p, none⟩) n cap) n xs')) → g.le g' → K (.tuple #[]) g'.w) : OpR F P N ds o l g.w Q K := by
 obtain ⟨⟨dd, hu, he⟩, _⟩ := htb.at hi
 rw [hd] at he
 obtain rfl := KD.of_slice he
 obtain ⟨_, inf, e1, e2, e3, e4⟩ := htb.at hj
 have hown := hs.own i _ hL
 have hxl := hown.1.1
 by_cases hm : m = 0
 ·subst hm
  have hxx : xs' = xs := by
   rw [hxs, show a = n from by omega, List.take_of_length_le (by omega)]; simp
  subst hxx
  refine OpR_builtin ho (w' := g.w) (v := .tuple #[]) (fun ac ha => ?_) (kk g (by
   rw [show L.set i (Ent.row e k (.slice (some ⟨b, p, none⟩) n cap) n xs') = L from by
    apply List.ext_getElem?
    intro j
    rw [List.getElem?_set]
    split
    ·rename_i h; subst h
     rw [hL]
     simp [(List.getElem?_eq_some_iff.1 hL).1]
    ·rfl]
   exact hs) (G.le.refl g))
  cases ad <;> simp [resolve, invoke, builtin, ha.ev hx, Builtin.clear_, run_underlying hu]
 ·have had := had.resolve_left hm
  subst had
  have hzl : ((List.replicate m ei.zero.cells.toList).flatten).length = m * k := by simp [hz]
  have hmk : 0 < m * k := Nat.mul_pos (by omega) hpos
  have hnk : n * k = a * k + m * k := by rw [← ham, Nat.add_mul]
  obtain ⟨cur, _, hh, hfit', hR, hcap, _⟩ := hown.1.store (us := (List.replicate m ei.zero.cells.toList).flatten) (off := a * k) (by rw [hzl, hxl]; omega) (by omega)
  have hspl : spl xs (a * k) (List.replicate m ei.zero.cells.toList).flatten = xs' := by
   unfold spl
   rw [hzl, List.drop_of_length_le (by omega), List.append_nil, hxs]
  rw [hspl] at hR
  have hst := hs.chg (g' := g.sr b (spl cur (p + a * k) (List.replicate m ei.zero.cells.toList).flatten).toArray) (e' := .row e k (.slice (some ⟨b, p, none⟩) n cap) n xs') hL
   (by simp only [Ent.blk, obk_pos hcap]; exact setRow_grown _ _ _) (fun _ _ => Iff.rfl) ⟨hR, hown.2⟩ (fun b' hb' => .inl hb')
  refine OpR_builtin ho (w' := (g.sr b (spl cur (p + a * k) (List.replicate m ei.zero.cells.toList).flatten).toArray).w) (v := .tuple #[]) (fun ac ha => ?_) (kk _ hst.1 hst.2)
  have hsc := run_storeCells_z (P := P) b (p + a * k) e (List.replicate m ei.zero.cells.toList).flatten 0 cur.toArray g.w hh (by simpa using hfit') (by
   intro u hu
   obtain ⟨l', hl', hu'⟩ := List.mem_flatten.1 hu
   rw [(List.mem_replicate.1 hl').2] at hu'
   exact List.all_eq_true.1 h1 u hu')
  simp only [Nat.add_zero] at hsc
  obtain ⟨m', rfl⟩ : ∃ m', m = m' + 1 := ⟨m - 1, by omega⟩
  simp [resolve, invoke, builtin, ha.ev hx, Builtin.clear_, run_underlying hu, zeroValue, typeInfo, e1, e4, zero_list _ _ (by omega : 0 < ei.zero.cells.size), hsc, G.sr, spl]

theorem Row.cutTo {B : Nat} {e : TypeId} {k n c a : Nat} {ad : Option Addr} {xs : List Value} (h : Row B e k (.slice ad n c) n xs w) (h1 : a ≤ n) :
  Row B e k (.slice (if c = 0 then ad else ad.map (·.add (0 * k))) (a - 0) (c - 0)) a (xs.take (a * k)) w := by
 refine ⟨by rw [List.length_take, h.1]; exact Nat.min_eq_left (Nat.mul_le_mul_right k h1), ?_⟩
 rcases h.2 with ⟨rfl, a', e1⟩ | ⟨b, p, cap, cur, e1, hB, hh, hnc, hcm, hcs, ht⟩
 ·simp only [Value.slice.injEq] at e1
  obtain ⟨rfl, _, rfl⟩ := e1
  obtain rfl : a = 0 := by omega
  exact .inl ⟨rfl, ad, by simp⟩
 ·simp only [Value.slice.injEq] at e1
  obtain ⟨rfl, _, rfl⟩ := e1
  by_cases hc0 : c = 0
  ·subst hc0
   exact .inl ⟨by omega, _, by rw [show a - 0 = 0 from by omega, show (0 : Nat) - 0 = 0 from rfl]⟩
  ·rw [if_neg hc0]
   refine .inr ⟨b, p, c, cur, by simp [Addr.add_lit], hB, hh, by omega, hcm, hcs, ?_⟩
   rw [← ht, List.take_take, Nat.min_eq_left (Nat.mul_le_mul_right k h1)]

theorem St.cutTo (hs : St g0 g L) {i : Nat} {e : TypeId} {k n c a : Nat} {ad : Option Addr} {xs : List Value} (hi : L[i]? = some (.row e k (.slice ad n c) n xs)) (h1 : a ≤ n) :
  St g0 g (L.set i (.row e k (.slice (if c = 0 then ad else ad.map (·.add (0 * k))) (a - 0) (c - 0)) a (xs.take (a * k)))) := by
 have hown := hs.own i _ hi
 have hob : ∀ b, obk (.slice (if c = 0 then ad else ad.map (·.add (0 * k))) (a - 0) (c - 0)) = some b → obk (.slice ad n c) = some b := by
  intro b hb
  by_cases hc : c = 0
  ·subst hc; rw [show (0 : Nat) - 0 = 0 from rfl, obk_zero] at hb; cases hb
  ·rw [if_neg hc] at hb
   cases ad with
   | none => simp [obk] at hb
   | some ad =>
    rw [Option.map_some, Nat.sub_zero, Nat.sub_zero, obk_pos hc] at hb
    rw [obk_pos hc]
    rw [Nat.zero_mul] at hb
    simpa [Addr.add] using hb
 exact (hs.chg (g' := g) (e' := .row e k (.slice (if c = 0 then ad else ad.map (·.add (0 * k))) (a - 0) (c - 0)) a (xs.take (a * k))) hi (grownBy_refl _ _) (fun _ _ => Iff.rfl)
  ⟨hown.1.cutTo h1, fun b hb => hown.2 b (hob b hb)⟩ (fun b hb => .inl (hob b hb))).1

theorem St.cutFrom (hs : St g0 g L) {i : Nat} {e : TypeId} {k n c a : Nat} {ad : Option Addr} {xs : List Value} (hi : L[i]? = some (.row e k (.slice ad n c) n xs)) (h1 : a ≤ n) :
  St g0 g (L.set i (.row e k (.slice (if c = a then ad else ad.map (·.add (a * k))) (n - a) (c - a)) (n - a) (xs.drop (a * k)))) := by
 have hown := hs.own i _ hi
 have hnc : n ≤ c := by
  rcases hown.1.2 with ⟨h, a', e1⟩ | ⟨b, p, cap, cur, e1, _, _, h2, _⟩
  ·omega
  ·simp only [Value.slice.injEq] at e1; omega
 have hob : ∀ b, obk (.slice (if c = a then ad else ad.map (·.add (a * k))) (n - a) (c - a)) = some b → obk (.slice ad n c) = some b := by
  intro b hb
  by_cases hc : c = a
  ·rw [show c - a = 0 from by omega, obk_zero] at hb; cases hb
  ·rw [if_neg hc] at hb
   cases ad with
   | none => simp [obk] at hb
   | some ad =>
    rw [Option.map_some, obk_pos (by omega)] at hb
    rw [obk_pos (by omega)]
    rw [← hb]
    unfold Addr.add
    split <;> rfl
 exact (hs.chg (g' := g) (e' := .row e k (.slice (if c = a then ad else ad.map (·.add (a * k))) (n - a) (c - a)) (n - a) (xs.drop (a * k))) hi (grownBy_refl _ _) (fun _ _ => Iff.rfl)
  ⟨hown.1.cutFrom h1, fun b hb => hown.2 b (hob b hb)⟩ (fun b hb => .inl (hob b hb))).1

/-- An own slice is lent to a reader: while the call runs it is as good as unchanging, behind it it is the own one again. -/
theorem St.lend {α : Type} [El α] (hs : St g0 g L) {i : Nat} {e : TypeId} {v : Value} {n : Nat} {cells : List Value} {xs : List α} (hi : L[i]? = some (.row e (El.k α) v n cells)) (hr : RcL g cells xs) :
  ∃ gf, gf.w = g.w ∧ g.le gf ∧ Rs gf v xs ∧ ∀ g2, Fr0 gf g2 → ∃ g3, g3.w = g2.w ∧ Fr0 g g3 := by
 have hown := hs.own i _ hi
 have hlt : ∀ b, obk v = some b → b < g.w.heap.size := fun b hb => (hown.1.lt b hb).2
 refine ⟨g.fz (obk v) hlt, rfl, G.le_fz g _ _, hown.1.rs hr (G.le_fz g _ _) fun b hb => ⟨.inr hb, rfl⟩, fun g2 hf => ?_⟩
 refine ⟨⟨g2.w, fun b => g2.im b ∧ obk v ≠ some b, fun b h => g2.lt b h.1⟩, rfl, hf.below, fun b hb => ?_⟩
 have h1 := hf.im b hb
 constructor
 ·intro h
  rcases h1.1 h.1 with h' | h'
  ·exact h'
  ·exact absurd h' h.2
 ·intro h
  exact ⟨h1.2 (.inl h), fun h' => hown.2 b h' h⟩
end Go.K

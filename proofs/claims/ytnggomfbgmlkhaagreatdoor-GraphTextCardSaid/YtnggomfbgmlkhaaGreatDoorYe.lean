/- Lending, the opening of arguments, the end of a law. -/
import Derived.Test.YtnggomfbgmlkhaaGreatDoorYd
import Derived.Deep.Slices
import Derived.ProofKit
import Derived.OpenShut

/- A field of an element of an own slice is set; an own slice is lent to a call. -/
namespace Go.K
open Go Go.RowKit

variable {F : Fence} {P : Program} {N : Nat} {ds : List Deferred} {l l' : Env} {a : Act} {w : World} {Q : Exit → Act → World → Prop} {ops : Array Oper} {os : List Oper} {o : Oper}
variable {g0 g g' : G} {L : List Ent} {K : Value → World → Prop}

theorem spl_left {c1 c2 us : List Value} {off : Nat} (h : off + us.length ≤ c1.length) : spl (c1 ++ c2) off us = spl c1 off us ++ c2 := by
 unfold spl
 rw [List.take_append_of_le_length (by omega), List.drop_append_of_le_length (by omega)]
 simp [List.append_assoc]
theorem spl_right {c1 c2 us : List Value} {off : Nat} : spl (c1 ++ c2) (c1.length + off) us = c1 ++ spl c2 off us := by
 unfold spl
 rw [List.take_append, List.take_of_length_le (by omega), Nat.add_sub_cancel_left, List.drop_append, List.drop_of_length_le (by omega), List.nil_append,
  show c1.length + off + us.length - c1.length = off + us.length from by omega]
 simp [List.append_assoc]

theorem RcL.upd {α : Type} [El α] {us : List Value} {off : Nat} {x' : α} (hoff : off + us.length ≤ El.k α) : ∀ {xs : List α} {cells : List Value}, RcL g cells xs → ∀ (i : Nat) (x : α), xs[i]? = some x → (∀ ys, El.rc g ys x → El.rc g (spl ys off us) x') →
  RcL g (spl cells (i * El.k α + off) us) (xs.set i x')
 | [], _, _, i, x, hi, _ => by simp at hi
 | y :: xs, _, ⟨c1, c2, e, h1, h2⟩, 0, x, hi, hf => by
  simp only [List.getElem?_cons_zero, Option.some.injEq] at hi
  subst hi
  subst e
  rw [Nat.zero_mul, Nat.zero_add, spl_left (by rw [El.len h1]; exact hoff)]
  exact ⟨_, c2, rfl, hf c1 h1, h2⟩
 | y :: xs, _, ⟨c1, c2, e, h1, h2⟩, i + 1, x, hi, hf => by
  subst e
  have := RcL.upd hoff h2 i x (by simpa using hi) hf
  rw [show (i + 1) * El.k α + off = c1.length + (i * El.k α + off) from by rw [El.len h1, Nat.add_mul]; omega, spl_right]
  exact ⟨c1, _, rfl, h1, this⟩

/-- A call to which an own slice is lent. -/
theorem OpR_lend {α : Type} [El α] (R : G → G → Value → Prop) (R' : G → G → Value → Prop) {f : FuncId} (hc : Callable P f) (hF : ∀ f, F.fn f) (hdep : F.depth = none) {x : Operand} {args : Array Operand} {ts : Array TypeId} {first captured : Array Value} {vs as : List Value}
  (ho : o.op = .call { callee := .value x, args, argTypes := ts }) (hx : ev l x = some (.func (.func f) first captured)) (ha : evs l args.toList = some vs) (has : first.toList ++ vs ++ captured.toList = as)
  (hs : St g0 g L) (i : Nat) {e : TypeId} {v : Value} {n : Nat} {cells : List Value} {xs : List α} (hi : L[i]? = some (.row e (El.k α) v n cells)) (hr : RcL g cells xs)
  (h : ∀ gf, g.le gf → gf.w = g.w → Rs gf v xs → CallsIn F 0 P f as.toArray gf.w (Ret gf (R gf)))
  (hR : ∀ gf g2 g3 v, gf.w = g.w → Fr0 gf g2 → g3.w = g2.w → Fr0 g g3 → (∀ b, g3.im b → g2.im b) → R gf g2 v → R' g g3 v)
  (k : ∀ g' v, Fr0 g g' → R' g g' v → K v g'.w) : OpR F P N ds o l g.w Q K := by
 have hown := hs.own i _ hi
 have hlt : ∀ b, obk v = some b → b < g.w.heap.size := fun b hb => (hown.1.lt b hb).2
 have hrs : Rs (g.fz (obk v) hlt) v xs := hown.1.rs hr (G.le_fz g _ _) fun b hb => ⟨.inr hb, rfl⟩
 refine OpR_call hc hF hdep ho hx ha has (CallsIn.mono (h (g.fz (obk v) hlt) (G.le_fz g _ hlt) rfl hrs) ?_)
 rintro _ _ ⟨g2, u, rfl, hf, rfl, hru⟩
 refine ⟨u, rfl, ?_⟩
 have hf3 : Fr0 g (⟨g2.w, fun b => g2.im b ∧ obk v ≠ some b, fun b h => g2.lt b h.1⟩ : G) := ⟨hf.below, fun b hb => by
  have h1 := hf.im b hb
  constructor
  ·intro h
   rcases h1.1 h.1 with h' | h'
   ·exact h'
   ·exact absurd h' h.2
  ·intro h
   exact ⟨h1.2 (.inl h), fun h' => hown.2 b h' h⟩⟩
 exact k ⟨g2.w, fun b => g2.im b ∧ obk v ≠ some b, fun b h => g2.lt b h.1⟩ u hf3 (hR (g.fz (obk v) hlt) g2 _ u rfl hf rfl hf3 (fun b h => h.1) hru)

/-- A result that is the caller's own, of plain cells, behind such a call. -/
theorem OwnR.thaw {α : Type} [El α] {e : TypeId} {gf g2 g3 : G} {xs : List α} {v : Value} (hp : ∀ cells, RcL g2 cells xs → RcL g3 cells xs) (hw : gf.w = g.w) (hw3 : g3.w = g2.w) (him : ∀ b, g3.im b → g2.im b) (h : OwnR e gf xs g2 v) : OwnR e g xs g3 v := by
 obtain ⟨cells, ⟨h1, h2⟩, h3⟩ := h
 refine ⟨cells, ⟨?_, fun b hb hi => h2 b hb (him b hi)⟩, hp _ h3⟩
 rw [hw] at h1
 rw [hw3]
 exact h1

theorem OpR_eqB {tb : Tb} (htb : tb.ok P) {t t' : Nat} {i : TI} {x y : Operand} {neg : Bool} {b c : Bool} (ho : o.op = .binOp (if neg then .neq else .eql) t x y t') (hx : ev l x = some (.bool b)) (hy : ev l y = some (.bool c))
  (hi : tl tb t = some i) (hd : i.desc = .bool) (k : K (.bool (neg != (b == c))) w) : OpR F P N ds o l w Q K := by
 obtain ⟨⟨dd, hu, he⟩, _⟩ := htb.at hi
 rw [hd] at he
 have hdd : dd = .bool := by cases dd <;> simp [KD.of] at he; rfl
 subst hdd
 refine OpR_value (fun c => ⟨by rw [ho]; simp, by rw [ho]; simp⟩) (fun a ha => ?_) k
 have hg : ∀ op, (eqGuard op t x y (.bool b) (.bool c)).run P w = .ok () w := fun op => by unfold eqGuard; split <;> rfl
 have hq : ∀ d, (Op.equalIn (d + 1) t (.bool b) (.bool c)).run P w = .ok (b == c) w := fun d => by
  simp [Op.equalIn, run_underlying hu]
 have heq : (Op.equal t (.bool b) (.bool c)).run P w = .ok (b == c) w := hq 9999
 cases neg <;> simp [execOp, ho, ha.ev hx, ha.ev hy, hg, binOp, heq]
end Go.K

/- From the given readings of arguments to my own words: what a slice, an integer, an array or a structure holds ahead of the call. -/
namespace Go.K
open Go Go.RowKit Go.ChangeShapes Go.WideShapes Go.Deep

/-- All memory that is there ahead of the call: none of it changes. -/
def gAll (W : World) : G := ⟨W, fun b => b < W.heap.size, fun _ h => h⟩

variable {P : Program}

/-- Each reading of a type is an element of mine, with some property. -/
def Opens (P : Program) (t : TypeId) {α : Type} [El α] (good : α → Prop) : Prop :=
 ∀ (H : Type) (enc : TypeId × Value → H) (W : World) (fuel : Nat) (cs : List Value) (x : DataW H × List MemPlace), DataW.trod enc P W 0 (fun _ => true) true fuel t cs = some x → ∃ y : α, El.rc (gAll W) cs y ∧ good y

theorem cell_spot {W : World} {a : Addr} {v : Value} (h : W.cell? a = some v) : a.spot = none ∧ a.block < W.heap.size := by
 unfold World.cell? at h
 split at h
 ·rename_i c t f hh
  split at h
  ·cases h
  ·rename_i hs
   refine ⟨by simpa using hs, (Array.getElem?_eq_some_iff.1 hh).1⟩
 ·cases h

theorem opens_rows {α : Type} [El α] {good : α → Prop} (W : World) (a : Addr) (k n : Nat) (hk : k = El.k α) (h : ∀ i, i < n → ∃ cs', cs'.length = k ∧ (∀ j, j < k → W.cell? ((a.add (i * k)).add j) = cs'[j]?) ∧ ∃ y : α, El.rc (gAll W) cs' y ∧ good y) :
  ∃ (cells : List Value) (xs : List α), xs.length = n ∧ RcL (gAll W) cells xs ∧ (∀ y ∈ xs, good y) ∧ ∀ (j : Nat) y, cells[j]? = some y → W.cell? (a.add j) = some y := by
 induction n with
 | zero => exact ⟨[], [], rfl, rfl, by simp, by simp⟩
 | succ n ih =>
  obtain ⟨cells, xs, h1, h2, h3, h4⟩ := ih fun i hi => h i (by omega)
  obtain ⟨cs', hl, hc, y, hy, hg⟩ := h n (by omega)
  have hcl : cells.length = n * k := by rw [h2.len, h1, hk]
  refine ⟨cells ++ cs', xs ++ [y], by simp [h1], RcL.app (ys := [y]) (show RcL _ cs' [y] from ⟨cs', [], by rw [List.append_nil], hy, rfl⟩) h2, ?_, fun j u hu => ?_⟩
  ·intro z hz
   rcases List.mem_append.1 hz with h | h
   ·exact h3 z h
   ·rw [List.mem_singleton] at h; exact h ▸ hg
  ·by_cases hj : j < cells.length
   ·rw [List.getElem?_append_left hj] at hu; exact h4 j u hu
   ·rw [List.getElem?_append_right (by omega)] at hu
    have hlt := (List.getElem?_eq_some_iff.1 hu).1
    have := hc (j - cells.length) (by omega)
    rw [hu] at this
    rw [← this, add_add, hcl]
    congr 2
    omega

/-- A slice, whatever its elements. -/
theorem opens_rs {α : Type} [El α] {good : α → Prop} {t e : TypeId} (ht : P.underlying t = some (.slice e)) (hk : P.cellsOf e = El.k α) (he : Opens P e good)
  {H : Type} {enc : TypeId × Value → H} {W : World} {fuel : Nat} {v : Value} {x : DataW H × List MemPlace} (h : DataW.trod enc P W 0 (fun _ => true) true fuel t [v] = some x) :
  ∃ xs : List α, Rs (gAll W) v xs ∧ ∀ y ∈ xs, good y := by
 rcases open_slice ht h with ⟨h0, _⟩ | ⟨a, len, cap, m, n, D, Pl, hcs, _, hl, hm, hmm, _, hi⟩
 ·obtain rfl := (List.cons.inj h0).1
  exact ⟨[], Rs.nil _, by simp⟩
 ·obtain rfl := (List.cons.inj hcs).1
  simp only [if_true] at hmm
  have hrow := opens_rows (good := good) W a (P.cellsOf e) len hk fun i hil => by
   obtain ⟨cs', hc, ht'⟩ := hi i (by omega)
   obtain ⟨_, h1, h2⟩ := World.cells?_some hc
   obtain ⟨y, hy, hg⟩ := he H enc W _ cs' _ ht'
   exact ⟨cs', h1, h2, y, hy, hg⟩
  obtain ⟨cells, xs, h1, h2, h3, h4⟩ := hrow
  refine ⟨xs, ⟨some a, len, cap, rfl, h1.symm, ⟨hl, hm⟩, ?_⟩, h3⟩
  by_cases h0 : len = 0
  ·exact .inl h0
  ·right
   have hpos := El.pos (α := α)
   have hcl : cells.length = len * El.k α := by rw [h2.len, h1]
   have hlt : 0 < cells.length := by rw [hcl]; exact Nat.mul_pos (by omega) hpos
   have hc0 := h4 0 cells[0] (List.getElem?_eq_getElem hlt)
   have ha0 : a.add 0 = a := by simp [Addr.add]
   rw [ha0] at hc0
   obtain ⟨hs, hb⟩ := cell_spot hc0
   obtain ⟨b, o, s⟩ := a
   simp only at hs
   subst hs
   refine ⟨b, o, cells, rfl, hb, h2, fun j y hy => ?_⟩
   have := h4 j y hy
   rwa [Addr.add_lit] at this

theorem wf_i64 {n : Int} (h : (Lit.int .i64 n).wf = true) : -9223372036854775808 ≤ n ∧ n ≤ 9223372036854775807 := by
 simp only [Lit.wf, Bool.and_eq_true, decide_eq_true_eq] at h
 exact h

/-- Integers in a row of fixed length. -/
theorem opens_ints {t e : TypeId} {n : Nat} (ht : P.underlying t = some (.array n e)) (he : P.underlying e = some (.int .i64)) (hc : P.cellsOf e = 1) (hct : P.cellsOf t = n)
  {H : Type} {enc : TypeId × Value → H} {W : World} {fuel : Nat} {cs : List Value} {x : DataW H × List MemPlace} (h : DataW.trod enc P W 0 (fun _ => true) true fuel t cs = some x) :
  cs.length = n ∧ ∀ i, i < n → ∃ m, cs[i]? = some (.int .i64 m) ∧ -9223372036854775808 ≤ m ∧ m ≤ 9223372036854775807 := by
 obtain ⟨xs, m, _, _, hl, hxl, hi⟩ := DataW.trod_array ht h
 rw [hct] at hl
 refine ⟨hl, fun i hin => ?_⟩
 have h1 := hi i hin
 rw [hc, Nat.mul_one, List.getElem?_eq_getElem (by omega)] at h1
 obtain ⟨k, hk, _, hw⟩ := DataW.trod_int he h1
 refine ⟨k, ?_, wf_i64 hw⟩
 have h2 : ((cs.drop i).take 1)[0]? = some (.int .i64 k) := by rw [hk]; rfl
 rw [List.getElem?_take_of_lt (by omega), List.getElem?_drop] at h2
 simpa using h2
end Go.K

/- The end of a statement 'for every input the law returns true': arguments read behind the call as ahead of it. -/
namespace Go.K
open Go Go.RowKit Go.ChangeShapes Go.WideShapes

variable {H : Type} {enc : TypeId × Value → H} {P : Program}

theorem trodAll_stays (hl : laidOutB P = true) {W W' : World} (hb : Below W.heap.size W W') {sp : Nat → Bool} : ∀ {ts : List TypeId} {vs : List Value} {ds : List (DataW H)} {ps : List MemPlace},
  (ts.all fun t => P.readableRec t && decide (t < P.types.size)) = true → DataW.TrodAll enc P W 0 (fun _ => true) true ts vs ds ps → (∀ p ∈ ps, p.block < W.heap.size) → (∀ p ∈ ps, sp p.block = true) → DataW.TrodAll enc P W' 0 sp true ts vs ds ps
 | [], vs, ds, ps, _, h, _, _ => by
  obtain ⟨rfl, rfl, rfl⟩ := trodAll_nil h
  exact trodAll_mk0
 | t :: ts, [], _, _, _, h, _, _ => by cases h
 | t :: ts, v :: vs, [], _, _, h, _, _ => by cases h
 | t :: ts, v :: vs, d :: ds, ps, hr, h, hlt, hsp => by
  obtain ⟨p, q, h1, h2, rfl⟩ := h
  simp only [List.all_cons, Bool.and_eq_true, decide_eq_true_eq] at hr
  exact ⟨p, q, WideElems.Trod_stays hl hr.1.1 hr.1.2 h1 (fun x hx => hb.same (hlt x (by simp [hx]))) (fun x hx => hsp x (by simp [hx])),
   trodAll_stays hl hb (by simpa using hr.2) h2 (fun x hx => hlt x (by simp [hx])) (fun x hx => hsp x (by simp [hx])), rfl⟩

theorem law_post {f : Func} {s : ChangeSpec} {W W' : World} {args : Array Value} {ds : List (DataW H)} {before : List MemPlace} {tb : TypeId} (hl : laidOutB P = true)
  (hr : (f.params.toList.all fun t => P.readableRec t && decide (t < P.types.size)) = true) (hv : s.vars = []) (hs : s.fn H ds = { results := [.lit (.bool true)], args := ds }) (hrt : f.resultTypes = #[tb]) (htb : P.underlying tb = some .bool)
  (hW : DataW.Whole enc P f.params.toList s.vars false W args.toList ds [] before) (hb : Below W.heap.size W W') : s.post enc P f false true false false W args (.bool true) W' := by
 have hlt : ∀ p ∈ before, p.block < W.heap.size := fun p hp => hW.lt p hp
 have hWc := hW
 obtain ⟨p, q, hA, hV, rfl, hz, hn⟩ := hW
 rw [hv] at hV
 obtain ⟨_, rfl⟩ := trodVars_none hV
 rw [List.append_nil] at *
 have hargs : ∀ sp : Nat → Bool, (∀ x ∈ p, sp x.block = true) → DataW.TrodAll enc P W' 0 sp true f.params.toList args.toList ds p := fun sp hsp => trodAll_stays hl hb hr hA hlt hsp
 have hres : ∀ (b : Nat) (sp : Nat → Bool) (hd : Bool), DataW.TrodAll enc P W' b sp hd f.resultTypes.toList ((Value.bool true).resultList f.resultTypes.size) [.lit (.bool true)] [] := fun b sp hd => by
  rw [hrt]; exact trodAll_mk1 (shut_bool htb true)
 have hfn : s.fn H (ds ++ []) = { results := [.lit (.bool true)], args := ds } := by rw [List.append_nil]; exact hs
 have hvars : ∀ sp : Nat → Bool, DataW.TrodVars enc P W' sp s.vars (s.fn H (ds ++ [])).vars [] := fun sp => by rw [hv, hfn]; rfl
 have hold : ∀ x ∈ p, (fun b => decide (b < W.heap.size)) x.block = true := fun x hx => by simpa using hlt x hx
 exact ⟨ds, [], p, [], p, [], hWc, by rw [hfn]; exact hres _ _ _, by rw [hfn]; exact hargs _ hold, hvars _, World.keptBut_mono (fun x hx => ⟨hx, .inr (by simpa using hx)⟩) (hb.frame (· ∈ p)), fun h => (by cases h)⟩
end Go.K

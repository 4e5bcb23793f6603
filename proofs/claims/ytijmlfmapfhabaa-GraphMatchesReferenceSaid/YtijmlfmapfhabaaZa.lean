/- From the given statements to contracts. -/
import Derived.Test.YtijmlfmapfhabaaGf
import Derived.Test.YtijmlfmapfhabaaKe
import Derived.Test.YtijmlfmapfhabaaRows
import Derived.Test.YtijmlfmapfhabaaSa

/- From the given statements to my contracts: what the arguments hold. -/
namespace Go.Proofs.Ytijmlfmapfhabaa
open Go Go.K Go.RowKit Go.ChangeShapes Go.WideShapes

theorem ownKnob_none : ownKnob Try.prog.godebug = none := by kernel_rfl
theorem laidOut : laidOutB Try.prog = true := by kernel_rfl
theorem cells58 : Try.prog.cellsOf 58 = 6 := by kernel_rfl
theorem cells3 : Try.prog.cellsOf 3 = 1 := by kernel_rfl

theorem opens_y6 : Opens Try.prog 58 (α := Y6) Y6.fit := by
  intro H enc W fuel cs x h
  obtain ⟨hl, hi⟩ := opens_ints Try.underlying58 Try.underlying3 cells3 cells58 h
  match cs, hl with
  | [c0, c1, c2, c3, c4, c5], _ =>
    obtain ⟨m0, e0, f0⟩ := hi 0 (by decide)
    obtain ⟨m1, e1, f1⟩ := hi 1 (by decide)
    obtain ⟨m2, e2, f2⟩ := hi 2 (by decide)
    obtain ⟨m3, e3, f3⟩ := hi 3 (by decide)
    obtain ⟨m4, e4, f4⟩ := hi 4 (by decide)
    obtain ⟨m5, e5, f5⟩ := hi 5 (by decide)
    obtain rfl := Option.some.inj e0
    obtain rfl := Option.some.inj e1
    obtain rfl := Option.some.inj e2
    obtain rfl := Option.some.inj e3
    obtain rfl := Option.some.inj e4
    obtain rfl := Option.some.inj e5
    exact ⟨⟨m0, m1, m2, m3, m4, m5⟩, rfl, ⟨f0, f1, f2, f3, f4, f5⟩⟩

theorem open_y6s {H : Type} {enc : TypeId × Value → H} {W : World} {v : Value} {d : DataW H} {p : List MemPlace} (hok : Value.okWide Try.prog W .any 0 26 v) (h : DataW.Trod enc Try.prog W 0 (fun _ => true) true 26 v d p) :
    ∃ x : List Y6, Rs (gAll W) v x ∧ ∀ y ∈ x, y.fit := by
  obtain ⟨a, n, c, rfl⟩ := okWide_slice Try.underlying26 hok
  obtain ⟨fuel, hf⟩ := h
  exact opens_rs (α := Y6) Try.underlying26 cells58 opens_y6 hf
theorem open_intsL {H : Type} {enc : TypeId × Value → H} {W : World} {v : Value} {d : DataW H} {p : List MemPlace} (hok : Value.okWide Try.prog W .any 0 31 v) (h : DataW.Trod enc Try.prog W 0 (fun _ => true) true 31 v d p) :
    ∃ x : List Int, Rs (gAll W) v x ∧ ∀ y ∈ x, I64 y := by
  obtain ⟨a, n, c, rfl⟩ := okWide_slice Try.underlying31 hok
  obtain ⟨fuel, hf⟩ := h
  exact opens_rs (α := Int) Try.underlying31 cells3 (opens_int Try.underlying3) hf
theorem open_i64 {H : Type} {enc : TypeId × Value → H} {W : World} {v : Value} {d : DataW H} {p : List MemPlace} (hok : Value.okWide Try.prog W .any 0 3 v) (h : DataW.Trod enc Try.prog W 0 (fun _ => true) true 3 v d p) :
    ∃ n : Int, v = .int .i64 n ∧ I64 n := by
  obtain ⟨n, rfl, _, _, hw⟩ := open_int Try.underlying3 hok h
  exact ⟨n, rfl, wf_i64 hw⟩

theorem finish_law {f : FuncId} {args : Array Value} {W : World} {s : ChangeSpec} {fn : Func} {H : Type} {enc : TypeId × Value → H} {ds : List (DataW H)} {before : List MemPlace}
    (hr : (fn.params.toList.all fun t => Try.prog.readableRec t && decide (t < Try.prog.types.size)) = true) (hv : s.vars = []) (hs : s.fn H ds = { results := [.lit (.bool true)], args := ds }) (hrt : fn.resultTypes = #[4])
    (hW : DataW.Whole enc Try.prog fn.params.toList s.vars false W args.toList ds [] before)
    (h : CallsIn Wd 0 Try.prog f args (gAll W).w (Ret (gAll W) fun _ r => r = .bool true)) :
    Calls Try.prog f args W fun e W' => ∃ v, e = .returned v ∧ s.post enc Try.prog fn false true false false W args v W' := by
  refine (callsIn_wide.1 h).mono ?_
  rintro _ _ ⟨g', v, rfl, hf, rfl, rfl⟩
  exact ⟨_, rfl, law_post laidOut hr hv hs hrt Try.underlying4 hW hf.below⟩
end Go.Proofs.Ytijmlfmapfhabaa

/- From the given statements to my contracts: what a flow as an argument holds. -/
namespace Go.Proofs.Ytijmlfmapfhabaa
open Go Go.K Go.RowKit Go.ChangeShapes Go.WideShapes
set_option maxRecDepth 100000

theorem cells31 : Try.prog.cellsOf 31 = 1 := by kernel_rfl
theorem cells22 : Try.prog.cellsOf 22 = 1 := by kernel_rfl
theorem cells23 : Try.prog.cellsOf 23 = 1 := by kernel_rfl
theorem cells50 : Try.prog.cellsOf 50 = 7 := by kernel_rfl
theorem cells60 : Try.prog.cellsOf 60 = 3 := by kernel_rfl
theorem cells25 : Try.prog.cellsOf 25 = 4 := by kernel_rfl

theorem opens_field {P : Program} {t : TypeId} {fs : Array Field} (ht : P.underlying t = some (.struct fs)) {H : Type} {enc : TypeId × Value → H} {W : World} {fuel : Nat} {cs : List Value} {x : DataW H × List MemPlace} (h : DataW.trod enc P W 0 (fun _ => true) true fuel t cs = some x) :
    cs.length = P.cellsOf t ∧ ∀ (i : Nat) (u : TypeId) (off : Nat), (fs[i]?).map (fun f => (f.type, f.offset)) = some (u, off) → ∃ n y, DataW.trod enc P W 0 (fun _ => true) true n u ((cs.drop off).take (P.cellsOf u)) = some y := by
  obtain ⟨xs, n, _, _, hl, hxl, hf⟩ := DataW.trod_struct ht h
  refine ⟨hl, fun i u off hiu => ⟨n, ?_⟩⟩
  obtain ⟨f, hi, e⟩ := Option.map_eq_some_iff.1 hiu
  simp only [Prod.mk.injEq] at e
  obtain ⟨rfl, rfl⟩ := e
  have h1 := hf i f hi
  have hlt : i < xs.length := by rw [hxl]; exact (Array.getElem?_eq_some_iff.1 hi).1
  rw [List.getElem?_eq_getElem hlt] at h1
  exact ⟨_, h1⟩
theorem one_int {H : Type} {enc : TypeId × Value → H} {W : World} {n : Nat} {c : Value} {y : DataW H × List MemPlace} (h : DataW.trod enc Try.prog W 0 (fun _ => true) true n 3 [c] = some y) : ∃ m : Int, c = .int .i64 m := by
  obtain ⟨m, e, _⟩ := DataW.trod_int Try.underlying3 h
  exact ⟨m, (List.cons.inj e).1⟩

theorem opens_step : Opens Try.prog 50 (α := Step) fun _ => True := by
  intro H enc W fuel cs x h
  obtain ⟨hl, hf⟩ := opens_field Try.underlying50 h
  rw [cells50] at hl
  match cs, hl with
  | [c0, c1, c2, c3, c4, c5, c6], _ =>
    obtain ⟨_, _, h0⟩ := hf 0 3 0 rfl
    obtain ⟨_, _, h1⟩ := hf 1 31 1 rfl
    obtain ⟨_, _, h2⟩ := hf 2 3 2 rfl
    obtain ⟨_, _, h3⟩ := hf 3 3 3 rfl
    obtain ⟨_, _, h4⟩ := hf 4 31 4 rfl
    obtain ⟨_, _, h5⟩ := hf 5 3 5 rfl
    obtain ⟨_, _, h6⟩ := hf 6 3 6 rfl
    rw [cells3] at h0 h2 h3 h5 h6
    rw [cells31] at h1 h4
    obtain ⟨m0, rfl⟩ := one_int h0
    obtain ⟨m2, rfl⟩ := one_int h2
    obtain ⟨m3, rfl⟩ := one_int h3
    obtain ⟨m5, rfl⟩ := one_int h5
    obtain ⟨m6, rfl⟩ := one_int h6
    obtain ⟨l1, r1, _⟩ := opens_rs (α := Int) (v := c1) Try.underlying31 cells3 (opens_int Try.underlying3) h1
    obtain ⟨l4, r4, _⟩ := opens_rs (α := Int) (v := c4) Try.underlying31 cells3 (opens_int Try.underlying3) h4
    obtain ⟨a1, b1, rfl⟩ := r1.isSlice
    obtain ⟨a4, b4, rfl⟩ := r4.isSlice
    exact ⟨⟨m0, l1, m2, m3, l4, m5, m6⟩, ⟨a1, _, b1, a4, _, b4, rfl, r1, r4⟩, trivial⟩
theorem opens_window : Opens Try.prog 60 (α := Window) fun _ => True := by
  intro H enc W fuel cs x h
  obtain ⟨hl, hf⟩ := opens_field Try.underlying60 h
  rw [cells60] at hl
  match cs, hl with
  | [c0, c1, c2], _ =>
    obtain ⟨_, _, h0⟩ := hf 0 3 0 rfl
    obtain ⟨_, _, h1⟩ := hf 1 3 1 rfl
    obtain ⟨_, _, h2⟩ := hf 2 3 2 rfl
    rw [cells3] at h0 h1 h2
    obtain ⟨m0, rfl⟩ := one_int h0
    obtain ⟨m1, rfl⟩ := one_int h1
    obtain ⟨m2, rfl⟩ := one_int h2
    exact ⟨⟨m0, m1, m2⟩, rfl, trivial⟩
theorem open_flow {H : Type} {enc : TypeId × Value → H} {W : World} {v : Value} {d : DataW H} {p : List MemPlace} (hok : Value.okWide Try.prog W .any 0 25 v) (h : DataW.Trod enc Try.prog W 0 (fun _ => true) true 25 v d p) :
    ∃ f : Flow, RFlow (gAll W) v f := by
  obtain ⟨⟨cs⟩, rfl, hsz⟩ := okWide_struct Try.underlying25 hok
  obtain ⟨fuel, h⟩ := h
  have h' : DataW.trod enc Try.prog W 0 (fun _ => true) true fuel 25 cs = some (d, p) := h
  obtain ⟨hl, hf⟩ := opens_field Try.underlying25 h'
  rw [cells25] at hl
  match cs, hl with
  | [c0, c1, c2, c3], _ =>
    obtain ⟨_, _, h0⟩ := hf 0 3 0 rfl
    obtain ⟨_, _, h1⟩ := hf 1 3 1 rfl
    obtain ⟨_, _, h2⟩ := hf 2 22 2 rfl
    obtain ⟨_, _, h3⟩ := hf 3 23 3 rfl
    rw [cells3] at h0 h1
    rw [cells22] at h2
    rw [cells23] at h3
    obtain ⟨m0, rfl⟩ := one_int h0
    obtain ⟨m1, rfl⟩ := one_int h1
    obtain ⟨l2, r2, _⟩ := opens_rs (α := Step) (v := c2) Try.underlying22 cells50 opens_step h2
    obtain ⟨l3, r3, _⟩ := opens_rs (α := Window) (v := c3) Try.underlying23 cells60 opens_window h3
    obtain ⟨a2, b2, rfl⟩ := r2.isSlice
    obtain ⟨a3, b3, rfl⟩ := r3.isSlice
    exact ⟨⟨m0, m1, l2, l3⟩, a2, _, b2, a3, _, b3, rfl, r2, r3⟩
end Go.Proofs.Ytijmlfmapfhabaa

/- From the given statements to contracts. -/
import Derived.Test.YtijmlfmapfhabaaGf
import Derived.Test.YtijmlfmapfhabaaKe
import Derived.Test.YtijmlfmapfhabaaRows

namespace Go.Proofs.Ytijmlfmapfhabaa
open Go Go.K Go.RowKit Go.ChangeShapes Go.WideShapes

theorem ownKnob_none : ownKnob Try.prog.godebug = none := by kernel_rfl
theorem laidOut : laidOutB Try.prog = true := by kernel_rfl
theorem cells58 : Try.prog.cellsOf 58 = 6 := by kernel_rfl
theorem cells3 : Try.prog.cellsOf 3 = 1 := by kernel_rfl

theorem opens_y6 : Opens Try.prog 58 (α := Y6) Y6.fit := by
  intro H enc W fuel cs x h
  obtain ⟨hl, hi⟩ := opens_ints Try.underlying58 Try.underlying3 cells3 cells58 h
  match cs, hl with
  | [c0, c1, c2, c3, c4, c5], _ =>
    obtain ⟨m0, e0, f0⟩ := hi 0 (by decide)
    obtain ⟨m1, e1, f1⟩ := hi 1 (by decide)
    obtain ⟨m2, e2, f2⟩ := hi 2 (by decide)
    obtain ⟨m3, e3, f3⟩ := hi 3 (by decide)
    obtain ⟨m4, e4, f4⟩ := hi 4 (by decide)
    obtain ⟨m5, e5, f5⟩ := hi 5 (by decide)
    obtain rfl := Option.some.inj e0
    obtain rfl := Option.some.inj e1
    obtain rfl := Option.some.inj e2
    obtain rfl := Option.some.inj e3
    obtain rfl := Option.some.inj e4
    obtain rfl := Option.some.inj e5
    exact ⟨⟨m0, m1, m2, m3, m4, m5⟩, rfl, ⟨f0, f1, f2, f3, f4, f5⟩⟩

theorem open_y6s {H : Type} {enc : TypeId × Value → H} {W : World} {v : Value} {d : DataW H} {p : List MemPlace} (hok : Value.okWide Try.prog W .any 0 26 v) (h : DataW.Trod enc Try.prog W 0 (fun _ => true) true 26 v d p) :
    ∃ x : List Y6, Rs (gAll W) v x ∧ ∀ y ∈ x, y.fit := by
  obtain ⟨a, n, c, rfl⟩ := okWide_slice Try.underlying26 hok
  obtain ⟨fuel, hf⟩ := h
  exact opens_rs (α := Y6) Try.underlying26 cells58 opens_y6 hf
theorem open_intsL {H : Type} {enc : TypeId × Value → H} {W : World} {v : Value} {d : DataW H} {p : List MemPlace} (hok : Value.okWide Try.prog W .any 0 31 v) (h : DataW.Trod enc Try.prog W 0 (fun _ => true) true 31 v d p) :
    ∃ x : List Int, Rs (gAll W) v x ∧ ∀ y ∈ x, I64 y := by
  obtain ⟨a, n, c, rfl⟩ := okWide_slice Try.underlying31 hok
  obtain ⟨fuel, hf⟩ := h
  exact opens_rs (α := Int) Try.underlying31 cells3 (opens_int Try.underlying3) hf
theorem open_i64 {H : Type} {enc : TypeId × Value → H} {W : World} {v : Value} {d : DataW H} {p : List MemPlace} (hok : Value.okWide Try.prog W .any 0 3 v) (h : DataW.Trod enc Try.prog W 0 (fun _ => true) true 3 v d p) :
    ∃ n : Int, v = .int .i64 n ∧ I64 n := by
  obtain ⟨n, rfl, _, _, hw⟩ := open_int Try.underlying3 hok h
  exact ⟨n, rfl, wf_i64 hw⟩

theorem finish_law {f : FuncId} {args : Array Value} {W : World} {s : ChangeSpec} {fn : Func} {H : Type} {enc : TypeId × Value → H} {ds : List (DataW H)} {before : List MemPlace}
    (hr : (fn.params.toList.all fun t => Try.prog.readableRec t && decide (t < Try.prog.types.size)) = true) (hv : s.vars = []) (hs : s.fn H ds = { results := [.lit (.bool true)], args := ds }) (hrt : fn.resultTypes = #[4])
    (hW : DataW.Whole enc Try.prog fn.params.toList s.vars false W args.toList ds [] before)
    (h : CallsIn Wd 0 Try.prog f args (gAll W).w (Ret (gAll W) fun _ r => r = .bool true)) :
    Calls Try.prog f args W fun e W' => ∃ v, e = .returned v ∧ s.post enc Try.prog fn false true false false W args v W' := by
  refine (callsIn_wide.1 h).mono ?_
  rintro _ _ ⟨g', v, rfl, hf, rfl, rfl⟩
  exact ⟨_, rfl, law_post laidOut hr hv hs hrt Try.underlying4 hW hf.below⟩
end Go.Proofs.Ytijmlfmapfhabaa

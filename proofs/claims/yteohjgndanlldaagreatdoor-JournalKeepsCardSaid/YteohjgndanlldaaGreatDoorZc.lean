/- The opening of a list of operations. -/
import Derived.Test.YteohjgndanlldaaGreatDoorZa
import Derived.Test.YteohjgndanlldaaGreatDoorWk

namespace Go.Proofs.YteohjgndanlldaaGreatDoor
open Go Go.K Go.RowKit Go.ChangeShapes Go.WideShapes
set_option maxRecDepth 100000

theorem cellsInts : Tryz.prog.cellsOf 56 = 1 := by kernel_rfl
theorem cellsOp : Tryz.prog.cellsOf 62 = 4 := by kernel_rfl
theorem opens_field {P : Program} {t : TypeId} {fs : Array Field} (ht : P.underlying t = some (.struct fs)) {H : Type} {enc : TypeId × Value → H} {W : World} {fuel : Nat} {cs : List Value} {x : DataW H × List MemPlace} (h : DataW.trod enc P W 0 (fun _ => true) true fuel t cs = some x) :
    cs.length = P.cellsOf t ∧ ∀ (i : Nat) (u : TypeId) (off : Nat), (fs[i]?).map (fun f => (f.type, f.offset)) = some (u, off) → ∃ n y, DataW.trod enc P W 0 (fun _ => true) true n u ((cs.drop off).take (P.cellsOf u)) = some y := by
  obtain ⟨xs, n, _, _, hl, hxl, hf⟩ := DataW.trod_struct ht h
  refine ⟨hl, fun i u off hiu => ⟨n, ?_⟩⟩
  obtain ⟨f, hi, e⟩ := Option.map_eq_some_iff.1 hiu
  simp only [Prod.mk.injEq] at e
  obtain ⟨rfl, rfl⟩ := e
  have h1 := hf i f hi
  have hlt : i < xs.length := by rw [hxl]; exact (Array.getElem?_eq_some_iff.1 hi).1
  rw [List.getElem?_eq_getElem hlt] at h1
  exact ⟨_, h1⟩
theorem one_int {H : Type} {enc : TypeId × Value → H} {W : World} {n : Nat} {c : Value} {y : DataW H × List MemPlace} (h : DataW.trod enc Tryz.prog W 0 (fun _ => true) true n 3 [c] = some y) : ∃ m : Int, c = .int .i64 m ∧ I64 m := by
  obtain ⟨m, e, _, hw⟩ := DataW.trod_int Tryz.underlying3 h
  exact ⟨m, (List.cons.inj e).1, wf_i64 hw⟩
theorem opens_op : Opens Tryz.prog 62 (α := OpE) fun _ => True := by
  intro H enc W fuel cs x h
  obtain ⟨hl, hf⟩ := opens_field Tryz.underlying62 h
  rw [cellsOp] at hl
  match cs, hl with
  | [c0, c1, c2, c3], _ =>
    obtain ⟨_, _, h0⟩ := hf 0 3 0 rfl
    obtain ⟨_, _, h1⟩ := hf 1 22 1 rfl
    obtain ⟨_, _, h2⟩ := hf 2 3 2 rfl
    obtain ⟨_, _, h3⟩ := hf 3 56 3 rfl
    rw [cellsInt] at h0 h2
    rw [cellsStrings] at h1
    rw [cellsInts] at h3
    obtain ⟨m0, rfl, hm0⟩ := one_int h0
    obtain ⟨m2, rfl, hm2⟩ := one_int h2
    obtain ⟨l1, r1, _⟩ := opens_rs (α := Str) (v := c1) Tryz.underlying22 cellsString opens_string h1
    obtain ⟨l3, r3, _⟩ := opens_rs (α := Int) (v := c3) Tryz.underlying56 cellsInt (opens_int Tryz.underlying3) h3
    obtain ⟨a1, b1, rfl⟩ := r1.isSlice
    obtain ⟨a3, b3, rfl⟩ := r3.isSlice
    exact ⟨⟨m0, l1, m2, l3⟩, ⟨a1, _, b1, a3, _, b3, rfl, r1, r3, hm0, hm2⟩, trivial⟩
theorem open_ops {H : Type} {enc : TypeId × Value → H} {W : World} {v : Value} {d : DataW H} {p : List MemPlace} (hok : Value.okWide Tryz.prog W .any 0 60 v) (h : DataW.Trod enc Tryz.prog W 0 (fun _ => true) true 60 v d p) :
    ∃ x : List OpE, Rs (gAll W) v x := by
  obtain ⟨a, n, c, rfl⟩ := okWide_slice Tryz.underlying60 hok
  obtain ⟨fuel, hf⟩ := h
  obtain ⟨x, h1, _⟩ := opens_rs (α := OpE) Tryz.underlying60 cellsOp opens_op hf
  exact ⟨x, h1⟩
end Go.Proofs.YteohjgndanlldaaGreatDoor

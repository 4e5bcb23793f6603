/- GraphWays: the quickest way is a way, its time is that of its moves and steps, and no walk to the same step is quicker: for every input. No condition. -/
import Derived.Test.YtijmlfmapfhabaaZa
import Derived.Test.YtijmlfmapfhabaaLa

namespace Go.Proofs.Ytijmlfmapfhabaa
open Go Go.K Go.RowKit Go.ChangeShapes Go.WideShapes
set_option maxRecDepth 100000

theorem z5_lifted (os : Os) (started : os.Started) (H : Type) (enc : TypeId × Value → H) :
    ReturnsInHanded {} Try.checked os 8 .any (Rows.graphWaysSpec.pre6 enc Try.prog Try.f8 Rows.graphWaysRow.domain false) (Rows.graphWaysSpec.post enc Try.prog Try.f8 false true false false) := by
  refine returnsInHanded_of_change (C := Try.checked) ownKnob_none started (by kernel_rfl) Try.func8
    (ChangeSpec.witness6 (enc := enc) (C := Try.checked) false ⟨#[], #[.slice none 0 0, .int .i64 0, .slice none 0 0], []⟩ 8 (by kernel_rfl) (by kernel_rfl) (by kernel_rfl) (by kernel_rfl)) ?_
  intro W base args ds gs before hval0 hW hcnd _
  have hval : ∀ (j : Nat) t v, Try.f8.params[j]? = some t → args[j]? = some v → Value.okWide Try.prog W .any base t v := hval0
  have hW' := hW
  obtain ⟨p, q, hA0, hV, rfl, hfz, hnd⟩ := hW
  have hA : DataW.TrodAll enc Try.prog W 0 (fun _ => true) true Try.f8.params.toList args.toList ds p := hA0
  rw [Try.params8] at hA hval
  obtain ⟨v0, v1, v2, d0, d1, d2, p0, p1, p2, rfl, rfl, rfl, h0, h1, h2⟩ := trodAll_three hA
  obtain ⟨rfl, rfl⟩ := trodVars_none hV
  obtain ⟨x0, rs0, hx0⟩ := open_y6s (hval 0 26 v0 rfl rfl) h0
  obtain ⟨a1, rfl, ha1⟩ := open_i64 (hval 1 3 v1 rfl rfl) h1
  obtain ⟨x2, rs2, hx2⟩ := open_intsL (hval 2 31 v2 rfl rfl) h2
  exact finish_law (by kernel_rfl) rfl rfl (by kernel_rfl) hW' (lawways_c v0 x0 a1 v2 x2 (gAll W) rs0 hx0 ha1 rs2 hx2)

theorem z5_holds : Rows.GraphWaysSaid :=
  OpenClaim.holds_of_wide 8 Try.f8 rfl rfl rfl rfl rfl rfl rfl ⟨rfl, rfl, rfl, rfl, rfl⟩ rfl rfl rfl rfl rfl (by kernel_rfl) Try.func8 (by kernel_rfl)
    (of_decide_eq_true (by kernel_rfl)) (by unfold Func.isWrapper; first | (rw [if_pos (by decide +kernel)]; kernel_rfl) | (rw [if_neg (by decide +kernel)]; exact ⟨rfl, rfl⟩))
    (fun os started H enc _ => z5_lifted os started H enc)
end Go.Proofs.Ytijmlfmapfhabaa

/- GraphFlowsEnd: where Check finds nothing, every walk that goes back no more often than it may comes to an end within the bound, and so does every walk by Next alone: for every input. No condition.: for every input. No condition. -/
import Derived.Test.YtijmlfmapfhabaaZa
import Derived.Test.YtijmlfmapfhabaaLc

namespace Go.Proofs.Ytijmlfmapfhabaa
open Go Go.K Go.RowKit Go.ChangeShapes Go.WideShapes
set_option maxRecDepth 100000

theorem z8_lifted (os : Os) (started : os.Started) (H : Type) (enc : TypeId × Value → H) :
    ReturnsInHanded {} Try.checked os 5 .any (Rows.graphFlowsEndSpec.pre6 enc Try.prog Try.f5 Rows.graphFlowsEndRow.domain false) (Rows.graphFlowsEndSpec.post enc Try.prog Try.f5 false true false false) := by
  refine returnsInHanded_of_change (C := Try.checked) ownKnob_none started (by kernel_rfl) Try.func5
    (ChangeSpec.witness6 (enc := enc) (C := Try.checked) false ⟨#[], #[.slice none 0 0, .slice none 0 0], []⟩ 8 (by kernel_rfl) (by kernel_rfl) (by kernel_rfl) (by kernel_rfl)) ?_
  intro W base args ds gs before hval0 hW hcnd _
  have hval : ∀ (j : Nat) t v, Try.f5.params[j]? = some t → args[j]? = some v → Value.okWide Try.prog W .any base t v := hval0
  have hW' := hW
  obtain ⟨p, q, hA0, hV, rfl, hfz, hnd⟩ := hW
  have hA : DataW.TrodAll enc Try.prog W 0 (fun _ => true) true Try.f5.params.toList args.toList ds p := hA0
  rw [Try.params5] at hA hval
  obtain ⟨v0, v1, d0, d1, p0, p1, rfl, rfl, rfl, h0, h1⟩ := trodAll_two hA
  obtain ⟨rfl, rfl⟩ := trodVars_none hV
  obtain ⟨x0, rs0, hx0⟩ := open_y6s (hval 0 26 v0 rfl rfl) h0
  obtain ⟨x1, rs1, hx1⟩ := open_intsL (hval 1 31 v1 rfl rfl) h1
  exact finish_law (by kernel_rfl) rfl rfl (by kernel_rfl) hW' (lawflowsend_c v0 x0 v1 x1 (gAll W) rs0 hx0 rs1 hx1)

theorem z8_holds : Rows.GraphFlowsEndSaid :=
  OpenClaim.holds_of_wide 5 Try.f5 rfl rfl rfl rfl rfl rfl rfl ⟨rfl, rfl, rfl, rfl, rfl⟩ rfl rfl rfl rfl rfl (by kernel_rfl) Try.func5 (by kernel_rfl)
    (of_decide_eq_true (by kernel_rfl)) (by unfold Func.isWrapper; first | (rw [if_pos (by decide +kernel)]; kernel_rfl) | (rw [if_neg (by decide +kernel)]; exact ⟨rfl, rfl⟩))
    (fun os started H enc _ => z8_lifted os started H enc)
end Go.Proofs.Ytijmlfmapfhabaa

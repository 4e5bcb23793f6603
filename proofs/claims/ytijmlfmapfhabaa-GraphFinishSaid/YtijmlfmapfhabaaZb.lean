/- GraphFinish: Finish is 0 for an end, and otherwise the least sum of a move, the Min of a step that follows, and the Finish of that step; it is there exactly if an end can be reached: for every input. No condition. -/
import Derived.Test.YtijmlfmapfhabaaZa
import Derived.Test.YtijmlfmapfhabaaLa

namespace Go.Proofs.Ytijmlfmapfhabaa
open Go Go.K Go.RowKit Go.ChangeShapes Go.WideShapes
set_option maxRecDepth 100000

theorem z2_lifted (os : Os) (started : os.Started) (H : Type) (enc : TypeId × Value → H) :
    ReturnsInHanded {} Try.checked os 11 .any (Rows.graphFinishSpec.pre6 enc Try.prog Try.f11 Rows.graphFinishRow.domain false) (Rows.graphFinishSpec.post enc Try.prog Try.f11 false true false false) := by
  refine returnsInHanded_of_change (C := Try.checked) ownKnob_none started (by kernel_rfl) Try.func11
    (ChangeSpec.witness6 (enc := enc) (C := Try.checked) false ⟨#[], #[.slice none 0 0, .int .i64 0], []⟩ 8 (by kernel_rfl) (by kernel_rfl) (by kernel_rfl) (by kernel_rfl)) ?_
  intro W base args ds gs before hval0 hW hcnd _
  have hval : ∀ (j : Nat) t v, Try.f11.params[j]? = some t → args[j]? = some v → Value.okWide Try.prog W .any base t v := hval0
  have hW' := hW
  obtain ⟨p, q, hA0, hV, rfl, hfz, hnd⟩ := hW
  have hA : DataW.TrodAll enc Try.prog W 0 (fun _ => true) true Try.f11.params.toList args.toList ds p := hA0
  rw [Try.params11] at hA hval
  obtain ⟨v0, v1, d0, d1, p0, p1, rfl, rfl, rfl, h0, h1⟩ := trodAll_two hA
  obtain ⟨rfl, rfl⟩ := trodVars_none hV
  obtain ⟨x0, rs0, hx0⟩ := open_y6s (hval 0 26 v0 rfl rfl) h0
  obtain ⟨a1, rfl, ha1⟩ := open_i64 (hval 1 3 v1 rfl rfl) h1
  exact finish_law (by kernel_rfl) rfl rfl (by kernel_rfl) hW' (lawfinish_c v0 x0 a1 (gAll W) rs0 hx0 ha1)

theorem z2_holds : Rows.GraphFinishSaid :=
  OpenClaim.holds_of_wide 11 Try.f11 rfl rfl rfl rfl rfl rfl rfl ⟨rfl, rfl, rfl, rfl, rfl⟩ rfl rfl rfl rfl rfl (by kernel_rfl) Try.func11 (by kernel_rfl)
    (of_decide_eq_true (by kernel_rfl)) (by unfold Func.isWrapper; first | (rw [if_pos (by decide +kernel)]; kernel_rfl) | (rw [if_neg (by decide +kernel)]; exact ⟨rfl, rfl⟩))
    (fun os started H enc _ => z2_lifted os started H enc)
end Go.Proofs.Ytijmlfmapfhabaa

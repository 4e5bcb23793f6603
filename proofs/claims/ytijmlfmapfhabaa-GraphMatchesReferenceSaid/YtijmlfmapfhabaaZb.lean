/- GraphMatchesReference: all functions agree with the reference implementation, for an arbitrary flow whose lists are shortened, for a flow that integers determine, and for two steps as they are and of the flow. -/
import Derived.Test.YtijmlfmapfhabaaZa
import Derived.Test.YtijmlfmapfhabaaRf

namespace Go.Proofs.Ytijmlfmapfhabaa
open Go Go.K Go.RowKit Go.ChangeShapes Go.WideShapes
set_option maxRecDepth 100000

theorem z9_lifted (os : Os) (started : os.Started) (H : Type) (enc : TypeId × Value → H) :
    ReturnsInHanded {} Try.checked os 3 .any (Rows.graphMatchesReferenceSpec.pre6 enc Try.prog Try.f3 Rows.graphMatchesReferenceRow.domain false) (Rows.graphMatchesReferenceSpec.post enc Try.prog Try.f3 false true false false) := by
  refine returnsInHanded_of_change (C := Try.checked) ownKnob_none started (by kernel_rfl) Try.func3
    (ChangeSpec.witness6 (enc := enc) (C := Try.checked) false ⟨#[], #[.agg #[.int .i64 0, .int .i64 0, .slice none 0 0, .slice none 0 0], .slice none 0 0, .int .i64 0, .int .i64 0], []⟩ 8 (by kernel_rfl) (by kernel_rfl) (by kernel_rfl) (by kernel_rfl)) ?_
  intro W base args ds gs before hval0 hW hcnd _
  have hval : ∀ (j : Nat) t v, Try.f3.params[j]? = some t → args[j]? = some v → Value.okWide Try.prog W .any base t v := hval0
  have hW' := hW
  obtain ⟨p, q, hA0, hV, rfl, hfz, hnd⟩ := hW
  have hA : DataW.TrodAll enc Try.prog W 0 (fun _ => true) true Try.f3.params.toList args.toList ds p := hA0
  rw [Try.params3] at hA hval
  obtain ⟨v0, v1, v2, v3, d0, d1, d2, d3, p0, p1, p2, p3, rfl, rfl, rfl, h0, h1, h2, h3⟩ := trodAll_four hA
  obtain ⟨rfl, rfl⟩ := trodVars_none hV
  obtain ⟨x0, rs0⟩ := open_flow (hval 0 25 v0 rfl rfl) h0
  obtain ⟨x1, rs1, hx1⟩ := open_y6s (hval 1 26 v1 rfl rfl) h1
  obtain ⟨a2, rfl, ha2⟩ := open_i64 (hval 2 3 v2 rfl rfl) h2
  obtain ⟨a3, rfl, ha3⟩ := open_i64 (hval 3 3 v3 rfl rfl) h3
  exact finish_law (by kernel_rfl) rfl rfl (by kernel_rfl) hW' (lawref_c v0 x0 v1 x1 a2 a3 (gAll W) rs0 rs1 hx1 ha2 ha3)

theorem z9_holds : Rows.GraphMatchesReferenceSaid :=
  OpenClaim.holds_of_wide 3 Try.f3 rfl rfl rfl rfl rfl rfl rfl ⟨rfl, rfl, rfl, rfl, rfl⟩ rfl rfl rfl rfl rfl (by kernel_rfl) Try.func3 (by kernel_rfl)
    (of_decide_eq_true (by kernel_rfl)) (by unfold Func.isWrapper; first | (rw [if_pos (by decide +kernel)]; kernel_rfl) | (rw [if_neg (by decide +kernel)]; exact ⟨rfl, rfl⟩))
    (fun os started H enc _ => z9_lifted os started H enc)
end Go.Proofs.Ytijmlfmapfhabaa

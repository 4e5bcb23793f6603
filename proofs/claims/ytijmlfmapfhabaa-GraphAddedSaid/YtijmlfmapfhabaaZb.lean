/- GraphAdded: adding a step to Next of a step takes no way away: what could be reached still can be, and no time becomes greater: for every input. No condition. -/
import Derived.Test.YtijmlfmapfhabaaZa
import Derived.Test.YtijmlfmapfhabaaLa

namespace Go.Proofs.Ytijmlfmapfhabaa
open Go Go.K Go.RowKit Go.ChangeShapes Go.WideShapes
set_option maxRecDepth 100000

theorem z4_lifted (os : Os) (started : os.Started) (H : Type) (enc : TypeId × Value → H) :
    ReturnsInHanded {} Try.checked os 10 .any (Rows.graphAddedSpec.pre6 enc Try.prog Try.f10 Rows.graphAddedRow.domain false) (Rows.graphAddedSpec.post enc Try.prog Try.f10 false true false false) := by
  refine returnsInHanded_of_change (C := Try.checked) ownKnob_none started (by kernel_rfl) Try.func10
    (ChangeSpec.witness6 (enc := enc) (C := Try.checked) false ⟨#[], #[.slice none 0 0, .int .i64 0, .int .i64 0, .int .i64 0, .int .i64 0], []⟩ 8 (by kernel_rfl) (by kernel_rfl) (by kernel_rfl) (by kernel_rfl)) ?_
  intro W base args ds gs before hval0 hW hcnd _
  have hval : ∀ (j : Nat) t v, Try.f10.params[j]? = some t → args[j]? = some v → Value.okWide Try.prog W .any base t v := hval0
  have hW' := hW
  obtain ⟨p, q, hA0, hV, rfl, hfz, hnd⟩ := hW
  have hA : DataW.TrodAll enc Try.prog W 0 (fun _ => true) true Try.f10.params.toList args.toList ds p := hA0
  rw [Try.params10] at hA hval
  obtain ⟨v0, v1, v2, v3, v4, d0, d1, d2, d3, d4, p0, p1, p2, p3, p4, rfl, rfl, rfl, h0, h1, h2, h3, h4⟩ := trodAll_five hA
  obtain ⟨rfl, rfl⟩ := trodVars_none hV
  obtain ⟨x0, rs0, hx0⟩ := open_y6s (hval 0 26 v0 rfl rfl) h0
  obtain ⟨a1, rfl, ha1⟩ := open_i64 (hval 1 3 v1 rfl rfl) h1
  obtain ⟨a2, rfl, ha2⟩ := open_i64 (hval 2 3 v2 rfl rfl) h2
  obtain ⟨a3, rfl, ha3⟩ := open_i64 (hval 3 3 v3 rfl rfl) h3
  obtain ⟨a4, rfl, ha4⟩ := open_i64 (hval 4 3 v4 rfl rfl) h4
  exact finish_law (by kernel_rfl) rfl rfl (by kernel_rfl) hW' (lawadded_c v0 x0 a1 a2 a3 a4 (gAll W) rs0 hx0 ha1 ha2 ha3 ha4)

theorem z4_holds : Rows.GraphAddedSaid :=
  OpenClaim.holds_of_wide 10 Try.f10 rfl rfl rfl rfl rfl rfl rfl ⟨rfl, rfl, rfl, rfl, rfl⟩ rfl rfl rfl rfl rfl (by kernel_rfl) Try.func10 (by kernel_rfl)
    (of_decide_eq_true (by kernel_rfl)) (by unfold Func.isWrapper; first | (rw [if_pos (by decide +kernel)]; kernel_rfl) | (rw [if_neg (by decide +kernel)]; exact ⟨rfl, rfl⟩))
    (fun os started H enc _ => z4_lifted os started H enc)
end Go.Proofs.Ytijmlfmapfhabaa

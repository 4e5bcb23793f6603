/- FlowParseMatchesReference: Parse agrees with the reference implementation, for arbitrary texts, and for texts of flows in which bytes are changed, removed or added: for every input; the listed package-level variables (tables and errors of the library's) read as the program's text lays them. -/
import Derived.Test.YtnaeopehmdcplaaGreatDoorYw
import Derived.Test.YtnaeopehmdcplaaGreatDoorYv
import Derived.Test.YtnaeopehmdcplaaGreatDoorTie
import Derived.Test.YtnaeopehmdcplaaGreatDoorCards
import Derived.ProofKit
import Derived.LaidOnce
import Derived.SevenTiedAt

namespace Go.Proofs.YtnaeopehmdcplaaGreatDoor
open Go Go.K Go.RowKit Go.ChangeShapes Go.WideShapes Go.ChangeAt
set_option maxRecDepth 100000

theorem parseMatchesReference_lifted (os : Os) (started : os.Started) (H : Type) (enc : TypeId × Value → H) :
  ReturnsInHanded {} Tryz.checked os 4 .any (fun w args => (Rows.flowParseMatchesReferenceSpec.pre enc Tryz.prog Tryz.f4 [] false w args ∧ laidMetH Tryz.prog laidL w) ∧ sizedMet enc Tryz.prog Tryz.f4 (OpenSpec.ofChange Rows.flowParseMatchesReferenceSpec) false w args)
   (Rows.flowParseMatchesReferenceSpec.post enc Tryz.prog Tryz.f4 false true false false) := by
 refine returns_and_shaped (C := Tryz.checked) (X := fun w _ => laidMetH Tryz.prog laidL w) (fun _ _ _ hh h => h.of_heap hh) ownKnob_none started (by kernel_rfl) Tryz.func4
  (ChangeSpec.witness_shaped (enc := enc) (C := Tryz.checked) (os := os) (X := fun w _ => laidMetH Tryz.prog laidL w) false (World.laidAll Tryz.prog os laidL) #[.string ByteArray.empty, .slice none 0 0, .slice none 0 0, .slice none 0 0] 8 (World.laidAll_os _ _ _)
   (World.shaped_of_ZipB (by kernel_rfl) (by kernel_rfl)) (by kernel_rfl) (by kernel_rfl) (by kernel_rfl) (wit_met os _)) ?_
 intro W args ds gs before hval0 hW hL hsh
 have hval : ∀ (j : Nat) t v, Tryz.f4.params[j]? = some t → args[j]? = some v → ∃ base, Value.okWide Tryz.prog W .any base t v := hval0
 have hW' := hW
 obtain ⟨p, q, hA0, hV, rfl, hfz, hnd⟩ := hW
 have hA : DataW.TrodAll enc Tryz.prog W 0 (fun _ => true) true Tryz.f4.params.toList args.toList ds p := hA0
 rw [Tryz.params4] at hA hval
 obtain ⟨v0, v1, v2, v3, d0, d1, d2, d3, p0, p1, p2, p3, rfl, rfl, rfl, h0, h1, h2, h3⟩ := trodAll_four hA
 obtain ⟨rfl, rfl⟩ := trodVars_none hV
 obtain ⟨_, k0⟩ := hval 0 9 v0 rfl rfl
 obtain ⟨x0, rfl⟩ := open_str k0
 obtain ⟨_, k1⟩ := hval 1 26 v1 rfl rfl
 obtain ⟨x1, rs1, hf1⟩ := open_y6s k1 h1
 obtain ⟨_, k2⟩ := hval 2 27 v2 rfl rfl
 obtain ⟨x2, rs2, hf2⟩ := open_y3s k2 h2
 obtain ⟨_, k3⟩ := hval 3 27 v3 rfl rfl
 obtain ⟨x3, rs3, hf3⟩ := open_y3s k3 h3
 rw [MakeChecks.laidMetH_plain _ _ _ (by kernel_rfl)] at hL
 exact finish_law (by kernel_rfl) rfl rfl (by kernel_rfl) hW' (parseMatches_c x0 v1 x1 v2 x2 v3 x3 (gAll W) (fl_of hL hsh) rs1 hf1 rs2 hf2 rs3 hf3)

theorem parseMatchesReference_row : Rows.FlowParseMatchesReferenceSaid :=
 OpenClaim.holds_of_wide 4 Tryz.f4 rfl rfl rfl rfl rfl rfl rfl ⟨rfl, rfl, rfl, rfl, rfl⟩ rfl rfl rfl rfl rfl (by kernel_rfl) Tryz.func4 (by kernel_rfl)
  (of_decide_eq_true (by kernel_rfl)) (by unfold Func.isWrapper; first | (rw [if_pos (by decide +kernel)]; kernel_rfl) | (rw [if_neg (by decide +kernel)]; exact ⟨rfl, rfl⟩))
  (fun os started H enc _ => parseMatchesReference_lifted os started H enc)

theorem parseMatchesReference_holds : Rows.FlowParseMatchesReferenceCardSaid :=
 Claim7.holds_tied_plain_at .later [] [.data, .data, .data, .data, .sentinel, .sentinel, .pinned] true (true, "98b44021dc91aadcb800f236143e7b7ef1c1bc659e95848b977fa2fd54256871") true
  parseMatchesReference_row (fun _ h => by cases h) (by kernel_rfl) (fun _ h => by cases h) flowParseMatchesReference_row_tie rfl ⟨rfl, rfl⟩ (by kernel_rfl) rfl
  (fun f fn hf hfn => by
   obtain rfl : f = 4 := Option.some.inj ((show Tryz.prog.funcNamed "cleanroom/cleanroomlaw04.FlowParseMatchesReference" = some 4 by kernel_rfl).symm.trans hf) |>.symm
   obtain rfl : fn = Tryz.f4 := (Option.some.inj (Tryz.func4.symm.trans hfn)).symm
   exact ⟨by kernel_rfl, fun j t ht => by
    rw [Tryz.params4] at ht
    have hm : t ∈ [9, 26, 27, 27] := by simpa using Array.mem_of_getElem? ht
    have hall : ([9, 26, 27, 27].all fun u => !Tryz.prog.wantsStandIn u) = true := by kernel_rfl
    exact (show Tryz.prog.wantsStandIn t = false by simpa using List.all_eq_true.1 hall t hm)⟩)
  (by kernel_rfl)
end Go.Proofs.YtnaeopehmdcplaaGreatDoor

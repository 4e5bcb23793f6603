/- FlowFirstError: Parse names the first line that is not right, whatever follows it: for every input; the listed package-level variables (tables and errors of the library's) read as the program's text lays them. -/
import Derived.Test.YtnaeopehmdcplaaDoorWa
import Derived.Test.YtnaeopehmdcplaaDoorZa
import Derived.Test.YtnaeopehmdcplaaDoorTie
import Derived.Test.YtnaeopehmdcplaaDoorCards
import Derived.ProofKit
import Derived.LaidOnce
import Derived.SevenTiedAt

namespace Go.Proofs.YtnaeopehmdcplaaDoor
open Go Go.K Go.RowKit Go.ChangeShapes Go.WideShapes Go.ChangeAt
set_option maxRecDepth 100000

theorem firstError_lifted (os : Os) (started : os.Started) (H : Type) (enc : TypeId × Value → H) :
    ReturnsInHanded {} Tryd.checked os 7 .any (fun w args => (Rows.flowFirstErrorSpec.pre enc Tryd.prog Tryd.f7 [] false w args ∧ laidMetH Tryd.prog laidL w) ∧ sizedMet enc Tryd.prog Tryd.f7 (OpenSpec.ofChange Rows.flowFirstErrorSpec) false w args)
      (Rows.flowFirstErrorSpec.post enc Tryd.prog Tryd.f7 false true false false) := by
  refine returns_and_shaped (C := Tryd.checked) (X := fun w _ => laidMetH Tryd.prog laidL w) (fun _ _ _ hh h => h.of_heap hh) ownKnob_none started (by kernel_rfl) Tryd.func7
    (ChangeSpec.witness_shaped (enc := enc) (C := Tryd.checked) (os := os) (X := fun w _ => laidMetH Tryd.prog laidL w) false (World.laidAll Tryd.prog os laidL) #[.slice none 0 0, .slice none 0 0, .int .i64 0, .int .i64 0, .string ByteArray.empty] 8 (World.laidAll_os _ _ _)
      (World.shaped_of_ZipB (by kernel_rfl) (by kernel_rfl)) (by kernel_rfl) (by kernel_rfl) (by kernel_rfl) (wit_met os _)) ?_
  intro W args ds gs before hval0 hW hL hsh
  have hval : ∀ (j : Nat) t v, Tryd.f7.params[j]? = some t → args[j]? = some v → ∃ base, Value.okWide Tryd.prog W .any base t v := hval0
  have hW' := hW
  obtain ⟨p, q, hA0, hV, rfl, hfz, hnd⟩ := hW
  have hA : DataW.TrodAll enc Tryd.prog W 0 (fun _ => true) true Tryd.f7.params.toList args.toList ds p := hA0
  rw [Tryd.params7] at hA hval
  obtain ⟨v0, v1, v2, v3, v4, d0, d1, d2, d3, d4, p0, p1, p2, p3, p4, rfl, rfl, rfl, h0, h1, h2, h3, h4⟩ := trodAll_five hA
  obtain ⟨rfl, rfl⟩ := trodVars_none hV
  obtain ⟨_, k0⟩ := hval 0 26 v0 rfl rfl
  obtain ⟨x0, rs0, hf0⟩ := open_y6s k0 h0
  obtain ⟨_, k1⟩ := hval 1 27 v1 rfl rfl
  obtain ⟨x1, rs1, hf1⟩ := open_y3s k1 h1
  obtain ⟨_, k2⟩ := hval 2 3 v2 rfl rfl
  obtain ⟨a2, rfl, ha2⟩ := open_i64 k2 h2
  obtain ⟨_, k3⟩ := hval 3 3 v3 rfl rfl
  obtain ⟨a3, rfl, ha3⟩ := open_i64 k3 h3
  obtain ⟨_, k4⟩ := hval 4 9 v4 rfl rfl
  obtain ⟨x4, rfl⟩ := open_str k4
  rw [MakeChecks.laidMetH_plain _ _ _ (by kernel_rfl)] at hL
  exact finish_law (by kernel_rfl) rfl rfl (by kernel_rfl) hW' (firstError_c v0 x0 v1 x1 a2 a3 x4 (gAll W) (fl_of hL hsh) rs0 hf0 rs1 hf1 ha2 ha3)

theorem firstError_row : Rows.FlowFirstErrorSaid :=
  OpenClaim.holds_of_wide 7 Tryd.f7 rfl rfl rfl rfl rfl rfl rfl ⟨rfl, rfl, rfl, rfl, rfl⟩ rfl rfl rfl rfl rfl (by kernel_rfl) Tryd.func7 (by kernel_rfl)
    (of_decide_eq_true (by kernel_rfl)) (by unfold Func.isWrapper; first | (rw [if_pos (by decide +kernel)]; kernel_rfl) | (rw [if_neg (by decide +kernel)]; exact ⟨rfl, rfl⟩))
    (fun os started H enc _ => firstError_lifted os started H enc)

theorem firstError_holds : Rows.FlowFirstErrorCardSaid :=
  Claim7.holds_tied_plain_at .later [] [.data, .data, .data, .data, .sentinel, .sentinel, .pinned] true (true, "91c32b20ada54682d9a9e6b061e535eb12bdfb07d9e0b30090f8b96d5a8ba905") true
    firstError_row (fun _ h => by cases h) (by kernel_rfl) (fun _ h => by cases h) flowFirstError_row_tie rfl ⟨rfl, rfl⟩ (by kernel_rfl) rfl
    (fun f fn hf hfn => by
      obtain rfl : f = 7 := Option.some.inj ((show Tryd.prog.funcNamed "cleanroom/cleanroomlaw04.FlowFirstError" = some 7 by kernel_rfl).symm.trans hf) |>.symm
      obtain rfl : fn = Tryd.f7 := (Option.some.inj (Tryd.func7.symm.trans hfn)).symm
      exact ⟨by kernel_rfl, fun j t ht => by
        rw [Tryd.params7] at ht
        have hm : t ∈ [26, 27, 3, 3, 9] := by simpa using Array.mem_of_getElem? ht
        have hall : ([26, 27, 3, 3, 9].all fun u => !Tryd.prog.wantsStandIn u) = true := by kernel_rfl
        exact (show Tryd.prog.wantsStandIn t = false by simpa using List.all_eq_true.1 hall t hm)⟩)
    (by kernel_rfl)
end Go.Proofs.YtnaeopehmdcplaaDoor

/- JournalRoom: each record takes 33 bytes and the length of its encoding; a group that is too long, or contains a record that is too long, changes nothing; a journal that is broken accepts nothing; on a nil journal there is nothing: for every input; the listed package-level variables (a table of the digest's, the package's own error, two tables of the library's) read as the program's text lays them. -/
import Derived.Test.YteohjgndanlldaaDoorWh
import Derived.Test.YteohjgndanlldaaDoorZa
import Derived.Test.YteohjgndanlldaaDoorTie
import Derived.Test.YteohjgndanlldaaDoorCards
import Derived.ProofKit
import Derived.LaidOnce
import Derived.SevenTiedAt

namespace Go.Proofs.YteohjgndanlldaaDoor
open Go Go.K Go.RowKit Go.ChangeShapes Go.WideShapes Go.ChangeAt
set_option maxRecDepth 100000

theorem room_lifted (os : Os) (started : os.Started) (H : Type) (enc : TypeId × Value → H) :
    ReturnsInHanded {} Tryd.checked os 3 .any (fun w args => (Rows.journalRoomSpec.pre enc Tryd.prog Tryd.f3 [] false w args ∧ laidMetH Tryd.prog laidL w) ∧ sizedMet enc Tryd.prog Tryd.f3 (OpenSpec.ofChange Rows.journalRoomSpec) false w args)
      (Rows.journalRoomSpec.post enc Tryd.prog Tryd.f3 false true false false) := by
  refine returnsInHanded_of_change_and (C := Tryd.checked) (X := fun w _ => laidMetH Tryd.prog laidL w) (fun _ _ _ hh h => h.of_heap hh) ownKnob_none started (by kernel_rfl) Tryd.func3
    (ChangeSpec.witness_shaped (enc := enc) (C := Tryd.checked) (os := os) (X := fun w _ => laidMetH Tryd.prog laidL w) false (World.laidAll Tryd.prog os laidL) #[.int .i64 0, .slice none 0 0, .int .i64 0] 8 (World.laidAll_os _ _ _)
      (World.shaped_of_ZipB (by kernel_rfl) (by kernel_rfl)) (by kernel_rfl) (by kernel_rfl) (by kernel_rfl) (wit_met os _)) ?_
  intro W base args ds gs before hval0 hW _ _ hL _
  have hval : ∀ (j : Nat) t v, Tryd.f3.params[j]? = some t → args[j]? = some v → Value.okWide Tryd.prog W .any base t v := hval0
  have hW' := hW
  obtain ⟨p, q, hA0, hV, rfl, hfz, hnd⟩ := hW
  have hA : DataW.TrodAll enc Tryd.prog W 0 (fun _ => true) true Tryd.f3.params.toList args.toList ds p := hA0
  rw [Tryd.params3] at hA hval
  obtain ⟨v0, v1, v2, d0, d1, d2, p0, p1, p2, rfl, rfl, rfl, h0, h1, h2⟩ := trodAll_three hA
  obtain ⟨rfl, rfl⟩ := trodVars_none hV
  obtain ⟨a0, rfl, ha0⟩ := open_i64 (hval 0 3 v0 rfl rfl) h0
  obtain ⟨x1, rs1⟩ := open_strs (hval 1 22 v1 rfl rfl) h1
  obtain ⟨a2, rfl, ha2⟩ := open_i64 (hval 2 3 v2 rfl rfl) h2
  rw [MakeChecks.laidMetH_plain _ _ _ (by kernel_rfl)] at hL
  obtain ⟨e, hE⟩ := err_of hL
  exact finish_law (by kernel_rfl) rfl rfl (by kernel_rfl) hW' (room_law_c (e := e) a0 v1 x1 a2 (gAll W) (round_of hL) hE ha0 rs1 ha2)

theorem room_row : Rows.JournalRoomSaid :=
  OpenClaim.holds_of_wide 3 Tryd.f3 rfl rfl rfl rfl rfl rfl rfl ⟨rfl, rfl, rfl, rfl, rfl⟩ rfl rfl rfl rfl rfl (by kernel_rfl) Tryd.func3 (by kernel_rfl)
    (of_decide_eq_true (by kernel_rfl)) (by unfold Func.isWrapper; first | (rw [if_pos (by decide +kernel)]; kernel_rfl) | (rw [if_neg (by decide +kernel)]; exact ⟨rfl, rfl⟩))
    (fun os started H enc _ => room_lifted os started H enc)

theorem room_holds : Rows.JournalRoomCardSaid :=
  Claim7.holds_tied_plain_at .later [] [.data, .data, .sentinel, .pinned] true (true, "378bd8f69b82a2e8a3070412897ca3cd3c5b0b12fa7febc30b3c4dbc042d0339") true
    room_row (fun _ h => by cases h) (by kernel_rfl) (fun _ h => by cases h) journalRoom_row_tie rfl ⟨rfl, rfl⟩ (by kernel_rfl) rfl
    (fun f fn hf hfn => by
      obtain rfl : f = 3 := Option.some.inj ((show Tryd.prog.funcNamed "cleanroom/cleanroomlaw25.JournalRoom" = some 3 by kernel_rfl).symm.trans hf) |>.symm
      obtain rfl : fn = Tryd.f3 := (Option.some.inj (Tryd.func3.symm.trans hfn)).symm
      exact ⟨by kernel_rfl, fun j t ht => by
        rw [Tryd.params3] at ht
        have hm : t ∈ [3, 22, 3] := by simpa using Array.mem_of_getElem? ht
        have hall : ([3, 22, 3].all fun u => !Tryd.prog.wantsStandIn u) = true := by kernel_rfl
        exact (show Tryd.prog.wantsStandIn t = false by simpa using List.all_eq_true.1 hall t hm)⟩)
    (by kernel_rfl)
end Go.Proofs.YteohjgndanlldaaDoor

/-
  DERIVED. GIVEN WITH THE SEED: THE CARDS: each row of YtbfjdfecgiegpaaGreatDoorRows.lean that lists a variable, with what it lists TIED to the program's text (the seventh form; the later family's looks); each row that meets fmt, with fmt's text TOLD by the authors' own Lean function (tested against real Go, not proved from fmt's source: count such statements apart). THE CARD IS WHAT COUNTS. Prove the row's statement (the work); the ties are given (YtbfjdfecgiegpaaGreatDoorTie.lean); close each card by the builder's one call (the guide's Derived/Test/ToyasCard.lean, 'card_holds'). Laid BY PROGRAM, IN A SANDBOX (cutbox-door.mjs). By AI agents, Wed Nov 11 2026. No macro, syntax, notation, axiom, sorry.
-/
import Derived.Test.YtbfjdfecgiegpaaGreatDoorRows
import GoSem.ClaimSeven
namespace Go.Proofs.YtbfjdfecgiegpaaGreatDoor
namespace Rows

/-- THE TIED CARD OF 'cleanroomlaw19.PermitRawMatchesReference'. -/
def permitRawMatchesReferenceCard : Claim7 := { stood := { row := permitRawMatchesReferenceRow, standIns := [], harness := (true, "702c4cbde0f8d1165b327421d27c665877a9e46e19a8f214a3ad2e11950c63c3"), looks := true }, kinds := [], alts := [], laidByText := true, laidKinds := [.data, .data, .data, .data, .sentinel, .sentinel, .pinned], laidTests := true, laidLooks := .later }
def PermitRawMatchesReferenceCardSaid : Prop := Claim7.holds Tryz.pinned (.plain (OpenSpec.ofChange permitRawMatchesReferenceSpec)) permitRawMatchesReferenceCard

/-- THE SECOND FORM's CARD OF 'cleanroomlaw19.PermitRawMatchesReference'. -/
def permitRawMatchesReferenceUptoCard : Claim7 := { stood := { row := permitRawMatchesReferenceUptoRow, standIns := [], harness := (true, "702c4cbde0f8d1165b327421d27c665877a9e46e19a8f214a3ad2e11950c63c3"), looks := true }, kinds := [], alts := [], laidByText := true, laidKinds := [.data, .data, .data, .data, .sentinel, .sentinel, .pinned], laidTests := true, laidLooks := .later }
def PermitRawMatchesReferenceUptoCardSaid : Prop := Claim7.holds Tryz.pinned (.plain (OpenSpec.upto permitRawMatchesReferenceSpec)) permitRawMatchesReferenceUptoCard
end Rows
end Go.Proofs.YtbfjdfecgiegpaaGreatDoor

/-
  DERIVED. GIVEN WITH THE SEED: THE CARDS: each row of YtkpojaffabjibaaGreatDoorRows.lean that lists a variable, with what it lists TIED to the program's text (the seventh form; the later family's looks); each row that meets fmt, with fmt's text TOLD by the authors' own Lean function (tested against real Go, not proved from fmt's source: count such statements apart). THE CARD IS WHAT COUNTS. Prove the row's statement (the work); the ties are given (YtkpojaffabjibaaGreatDoorTie.lean); close each card by the builder's one call (the guide's Derived/Test/ToyasCard.lean, 'card_holds'). Laid BY PROGRAM, IN A SANDBOX (cutbox-door.mjs). By AI agents, Wed Nov 11 2026. No macro, syntax, notation, axiom, sorry.
-/
import Derived.Test.YtkpojaffabjibaaGreatDoorRows
import GoSem.ClaimSeven
namespace Go.Proofs.YtkpojaffabjibaaGreatDoor
namespace Rows

/-- THE TIED CARD OF 'cleanroomlaw19.PermitMatchesReference'. -/
def permitMatchesReferenceCard : Claim7 := { stood := { row := permitMatchesReferenceRow, standIns := [], harness := (true, "a29ed9f1f6773c9f289ff323cb1d90425ae21a14d8b36a396fd1210dabaf47fe"), looks := true }, kinds := [], alts := [], laidByText := true, laidKinds := [.data, .data, .data, .data, .sentinel, .sentinel, .pinned], laidTests := true, laidLooks := .later }
def PermitMatchesReferenceCardSaid : Prop := Claim7.holds Tryz.pinned (.plain (OpenSpec.ofChange permitMatchesReferenceSpec)) permitMatchesReferenceCard

/-- THE SECOND FORM's CARD OF 'cleanroomlaw19.PermitMatchesReference'. -/
def permitMatchesReferenceUptoCard : Claim7 := { stood := { row := permitMatchesReferenceUptoRow, standIns := [], harness := (true, "a29ed9f1f6773c9f289ff323cb1d90425ae21a14d8b36a396fd1210dabaf47fe"), looks := true }, kinds := [], alts := [], laidByText := true, laidKinds := [.data, .data, .data, .data, .sentinel, .sentinel, .pinned], laidTests := true, laidLooks := .later }
def PermitMatchesReferenceUptoCardSaid : Prop := Claim7.holds Tryz.pinned (.plain (OpenSpec.upto permitMatchesReferenceSpec)) permitMatchesReferenceUptoCard
end Rows
end Go.Proofs.YtkpojaffabjibaaGreatDoor

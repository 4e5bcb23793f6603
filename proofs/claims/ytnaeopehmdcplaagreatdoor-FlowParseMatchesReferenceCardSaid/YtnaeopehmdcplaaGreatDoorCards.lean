/-
  DERIVED. GIVEN WITH THE SEED: THE CARDS: each row of YtnaeopehmdcplaaGreatDoorRows.lean that lists a variable, with what it lists TIED to the program's text (the seventh form; the later family's looks); each row that meets fmt, with fmt's text TOLD by the authors' own Lean function (tested against real Go, not proved from fmt's source: count such statements apart). THE CARD IS WHAT COUNTS. Prove the row's statement (the work); the ties are given (YtnaeopehmdcplaaGreatDoorTie.lean); close each card by the builder's one call (the guide's Derived/Test/ToyasCard.lean, 'card_holds'). Laid BY PROGRAM, IN A SANDBOX (cutbox-door.mjs). By AI agents, Wed Nov 11 2026. No macro, syntax, notation, axiom, sorry.
-/
import Derived.Test.YtnaeopehmdcplaaGreatDoorRows
import GoSem.ClaimSeven
namespace Go.Proofs.YtnaeopehmdcplaaGreatDoor
namespace Rows

/-- THE TIED CARD OF 'cleanroomlaw04.FlowMatchesReference'. -/
def flowMatchesReferenceCard : Claim7 := { stood := { row := flowMatchesReferenceRow, standIns := [], harness := (true, "98b44021dc91aadcb800f236143e7b7ef1c1bc659e95848b977fa2fd54256871"), looks := true }, kinds := [], alts := [], laidByText := true, laidKinds := [.data, .data, .data, .data, .sentinel, .sentinel, .pinned], laidTests := true, laidLooks := .later }
def FlowMatchesReferenceCardSaid : Prop := Claim7.holds Tryz.pinned (.plain (OpenSpec.ofChange flowMatchesReferenceSpec)) flowMatchesReferenceCard

/-- THE TIED CARD OF 'cleanroomlaw04.FlowParseMatchesReference'. -/
def flowParseMatchesReferenceCard : Claim7 := { stood := { row := flowParseMatchesReferenceRow, standIns := [], harness := (true, "98b44021dc91aadcb800f236143e7b7ef1c1bc659e95848b977fa2fd54256871"), looks := true }, kinds := [], alts := [], laidByText := true, laidKinds := [.data, .data, .data, .data, .sentinel, .sentinel, .pinned], laidTests := true, laidLooks := .later }
def FlowParseMatchesReferenceCardSaid : Prop := Claim7.holds Tryz.pinned (.plain (OpenSpec.ofChange flowParseMatchesReferenceSpec)) flowParseMatchesReferenceCard

/-- THE TIED CARD OF 'cleanroomlaw04.FlowParts'. -/
def flowPartsCard : Claim7 := { stood := { row := flowPartsRow, standIns := [], harness := (true, "98b44021dc91aadcb800f236143e7b7ef1c1bc659e95848b977fa2fd54256871"), looks := true }, kinds := [], alts := [], laidByText := true, laidKinds := [.data, .data, .data, .data, .sentinel, .sentinel, .pinned], laidTests := true, laidLooks := .later }
def FlowPartsCardSaid : Prop := Claim7.holds Tryz.pinned (.plain (OpenSpec.ofChange flowPartsSpec)) flowPartsCard

/-- THE SECOND FORM's CARD OF 'cleanroomlaw04.FlowMatchesReference'. -/
def flowMatchesReferenceUptoCard : Claim7 := { stood := { row := flowMatchesReferenceUptoRow, standIns := [], harness := (true, "98b44021dc91aadcb800f236143e7b7ef1c1bc659e95848b977fa2fd54256871"), looks := true }, kinds := [], alts := [], laidByText := true, laidKinds := [.data, .data, .data, .data, .sentinel, .sentinel, .pinned], laidTests := true, laidLooks := .later }
def FlowMatchesReferenceUptoCardSaid : Prop := Claim7.holds Tryz.pinned (.plain (OpenSpec.upto flowMatchesReferenceSpec)) flowMatchesReferenceUptoCard

/-- THE SECOND FORM's CARD OF 'cleanroomlaw04.FlowParseMatchesReference'. -/
def flowParseMatchesReferenceUptoCard : Claim7 := { stood := { row := flowParseMatchesReferenceUptoRow, standIns := [], harness := (true, "98b44021dc91aadcb800f236143e7b7ef1c1bc659e95848b977fa2fd54256871"), looks := true }, kinds := [], alts := [], laidByText := true, laidKinds := [.data, .data, .data, .data, .sentinel, .sentinel, .pinned], laidTests := true, laidLooks := .later }
def FlowParseMatchesReferenceUptoCardSaid : Prop := Claim7.holds Tryz.pinned (.plain (OpenSpec.upto flowParseMatchesReferenceSpec)) flowParseMatchesReferenceUptoCard

/-- THE SECOND FORM's CARD OF 'cleanroomlaw04.FlowParts'. -/
def flowPartsUptoCard : Claim7 := { stood := { row := flowPartsUptoRow, standIns := [], harness := (true, "98b44021dc91aadcb800f236143e7b7ef1c1bc659e95848b977fa2fd54256871"), looks := true }, kinds := [], alts := [], laidByText := true, laidKinds := [.data, .data, .data, .data, .sentinel, .sentinel, .pinned], laidTests := true, laidLooks := .later }
def FlowPartsUptoCardSaid : Prop := Claim7.holds Tryz.pinned (.plain (OpenSpec.upto flowPartsSpec)) flowPartsUptoCard
end Rows
end Go.Proofs.YtnaeopehmdcplaaGreatDoor

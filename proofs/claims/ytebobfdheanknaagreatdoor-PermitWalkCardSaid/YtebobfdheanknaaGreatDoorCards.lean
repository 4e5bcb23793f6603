/-
  DERIVED. GIVEN WITH THE SEED: THE CARDS: each row of YtebobfdheanknaaGreatDoorRows.lean that lists a variable, with what it lists TIED to the program's text (the seventh form; the later family's looks); each row that meets fmt, with fmt's text TOLD by the authors' own Lean function (tested against real Go, not proved from fmt's source: count such statements apart). THE CARD IS WHAT COUNTS. Prove the row's statement (the work); the ties are given (YtebobfdheanknaaGreatDoorTie.lean); close each card by the builder's one call (the guide's Derived/Test/ToyasCard.lean, 'card_holds'). Laid BY PROGRAM, IN A SANDBOX (cutbox-door.mjs). By AI agents, Wed Nov 11 2026. No macro, syntax, notation, axiom, sorry.
-/
import Derived.Test.YtebobfdheanknaaGreatDoorRows
import GoSem.ClaimSeven
namespace Go.Proofs.YtebobfdheanknaaGreatDoor
namespace Rows

/-- THE TIED CARD OF 'cleanroomlaw19.PermitMatchesReference'. -/
def permitMatchesReferenceCard : Claim7 := { stood := { row := permitMatchesReferenceRow, standIns := [], harness := (true, "7883561ccd6e3ec7de47bbbc0187876f0e578c371406eba4874d10aebb56aee2"), looks := true }, kinds := [], alts := [], laidByText := true, laidKinds := [.data, .data, .data, .data, .sentinel, .sentinel, .pinned], laidTests := true, laidLooks := .later }
def PermitMatchesReferenceCardSaid : Prop := Claim7.holds Tryz.pinned (.plain (OpenSpec.ofChange permitMatchesReferenceSpec)) permitMatchesReferenceCard

/-- THE TIED CARD OF 'cleanroomlaw19.PermitRawMatchesReference'. -/
def permitRawMatchesReferenceCard : Claim7 := { stood := { row := permitRawMatchesReferenceRow, standIns := [], harness := (true, "7883561ccd6e3ec7de47bbbc0187876f0e578c371406eba4874d10aebb56aee2"), looks := true }, kinds := [], alts := [], laidByText := true, laidKinds := [.data, .data, .data, .data, .sentinel, .sentinel, .pinned], laidTests := true, laidLooks := .later }
def PermitRawMatchesReferenceCardSaid : Prop := Claim7.holds Tryz.pinned (.plain (OpenSpec.ofChange permitRawMatchesReferenceSpec)) permitRawMatchesReferenceCard

/-- THE TIED CARD OF 'cleanroomlaw19.PermitExactly'. -/
def permitExactlyCard : Claim7 := { stood := { row := permitExactlyRow, standIns := [], harness := (true, "7883561ccd6e3ec7de47bbbc0187876f0e578c371406eba4874d10aebb56aee2"), looks := true }, kinds := [], alts := [], laidByText := true, laidKinds := [.data, .data, .data, .data, .sentinel, .sentinel, .pinned], laidTests := true, laidLooks := .later }
def PermitExactlyCardSaid : Prop := Claim7.holds Tryz.pinned (.plain (OpenSpec.ofChange permitExactlySpec)) permitExactlyCard

/-- THE TIED CARD OF 'cleanroomlaw19.PermitWalk'. -/
def permitWalkCard : Claim7 := { stood := { row := permitWalkRow, standIns := [], harness := (true, "7883561ccd6e3ec7de47bbbc0187876f0e578c371406eba4874d10aebb56aee2"), looks := true }, kinds := [], alts := [], laidByText := true, laidKinds := [.data, .data, .data, .data, .sentinel, .sentinel, .pinned], laidTests := true, laidLooks := .later }
def PermitWalkCardSaid : Prop := Claim7.holds Tryz.pinned (.plain (OpenSpec.ofChange permitWalkSpec)) permitWalkCard

/-- THE TIED CARD OF 'cleanroomlaw19.PermitTwice'. -/
def permitTwiceCard : Claim7 := { stood := { row := permitTwiceRow, standIns := [], harness := (true, "7883561ccd6e3ec7de47bbbc0187876f0e578c371406eba4874d10aebb56aee2"), looks := true }, kinds := [], alts := [], laidByText := true, laidKinds := [.data, .data, .data, .data, .sentinel, .sentinel, .pinned], laidTests := true, laidLooks := .later }
def PermitTwiceCardSaid : Prop := Claim7.holds Tryz.pinned (.plain (OpenSpec.ofChange permitTwiceSpec)) permitTwiceCard

/-- THE TIED CARD OF 'cleanroomlaw19.PermitCorrected'. -/
def permitCorrectedCard : Claim7 := { stood := { row := permitCorrectedRow, standIns := [], harness := (true, "7883561ccd6e3ec7de47bbbc0187876f0e578c371406eba4874d10aebb56aee2"), looks := true }, kinds := [], alts := [], laidByText := true, laidKinds := [.data, .data, .data, .data, .sentinel, .sentinel, .pinned], laidTests := true, laidLooks := .later }
def PermitCorrectedCardSaid : Prop := Claim7.holds Tryz.pinned (.plain (OpenSpec.ofChange permitCorrectedSpec)) permitCorrectedCard

/-- THE TIED CARD OF 'cleanroomlaw19.PermitStopped'. -/
def permitStoppedCard : Claim7 := { stood := { row := permitStoppedRow, standIns := [], harness := (true, "7883561ccd6e3ec7de47bbbc0187876f0e578c371406eba4874d10aebb56aee2"), looks := true }, kinds := [], alts := [], laidByText := true, laidKinds := [.data, .data, .data, .data, .sentinel, .sentinel, .pinned], laidTests := true, laidLooks := .later }
def PermitStoppedCardSaid : Prop := Claim7.holds Tryz.pinned (.plain (OpenSpec.ofChange permitStoppedSpec)) permitStoppedCard

/-- THE SECOND FORM's CARD OF 'cleanroomlaw19.PermitMatchesReference'. -/
def permitMatchesReferenceUptoCard : Claim7 := { stood := { row := permitMatchesReferenceUptoRow, standIns := [], harness := (true, "7883561ccd6e3ec7de47bbbc0187876f0e578c371406eba4874d10aebb56aee2"), looks := true }, kinds := [], alts := [], laidByText := true, laidKinds := [.data, .data, .data, .data, .sentinel, .sentinel, .pinned], laidTests := true, laidLooks := .later }
def PermitMatchesReferenceUptoCardSaid : Prop := Claim7.holds Tryz.pinned (.plain (OpenSpec.upto permitMatchesReferenceSpec)) permitMatchesReferenceUptoCard

/-- THE SECOND FORM's CARD OF 'cleanroomlaw19.PermitRawMatchesReference'. -/
def permitRawMatchesReferenceUptoCard : Claim7 := { stood := { row := permitRawMatchesReferenceUptoRow, standIns := [], harness := (true, "7883561ccd6e3ec7de47bbbc0187876f0e578c371406eba4874d10aebb56aee2"), looks := true }, kinds := [], alts := [], laidByText := true, laidKinds := [.data, .data, .data, .data, .sentinel, .sentinel, .pinned], laidTests := true, laidLooks := .later }
def PermitRawMatchesReferenceUptoCardSaid : Prop := Claim7.holds Tryz.pinned (.plain (OpenSpec.upto permitRawMatchesReferenceSpec)) permitRawMatchesReferenceUptoCard

/-- THE SECOND FORM's CARD OF 'cleanroomlaw19.PermitExactly'. -/
def permitExactlyUptoCard : Claim7 := { stood := { row := permitExactlyUptoRow, standIns := [], harness := (true, "7883561ccd6e3ec7de47bbbc0187876f0e578c371406eba4874d10aebb56aee2"), looks := true }, kinds := [], alts := [], laidByText := true, laidKinds := [.data, .data, .data, .data, .sentinel, .sentinel, .pinned], laidTests := true, laidLooks := .later }
def PermitExactlyUptoCardSaid : Prop := Claim7.holds Tryz.pinned (.plain (OpenSpec.upto permitExactlySpec)) permitExactlyUptoCard

/-- THE SECOND FORM's CARD OF 'cleanroomlaw19.PermitWalk'. -/
def permitWalkUptoCard : Claim7 := { stood := { row := permitWalkUptoRow, standIns := [], harness := (true, "7883561ccd6e3ec7de47bbbc0187876f0e578c371406eba4874d10aebb56aee2"), looks := true }, kinds := [], alts := [], laidByText := true, laidKinds := [.data, .data, .data, .data, .sentinel, .sentinel, .pinned], laidTests := true, laidLooks := .later }
def PermitWalkUptoCardSaid : Prop := Claim7.holds Tryz.pinned (.plain (OpenSpec.upto permitWalkSpec)) permitWalkUptoCard

/-- THE SECOND FORM's CARD OF 'cleanroomlaw19.PermitTwice'. -/
def permitTwiceUptoCard : Claim7 := { stood := { row := permitTwiceUptoRow, standIns := [], harness := (true, "7883561ccd6e3ec7de47bbbc0187876f0e578c371406eba4874d10aebb56aee2"), looks := true }, kinds := [], alts := [], laidByText := true, laidKinds := [.data, .data, .data, .data, .sentinel, .sentinel, .pinned], laidTests := true, laidLooks := .later }
def PermitTwiceUptoCardSaid : Prop := Claim7.holds Tryz.pinned (.plain (OpenSpec.upto permitTwiceSpec)) permitTwiceUptoCard

/-- THE SECOND FORM's CARD OF 'cleanroomlaw19.PermitCorrected'. -/
def permitCorrectedUptoCard : Claim7 := { stood := { row := permitCorrectedUptoRow, standIns := [], harness := (true, "7883561ccd6e3ec7de47bbbc0187876f0e578c371406eba4874d10aebb56aee2"), looks := true }, kinds := [], alts := [], laidByText := true, laidKinds := [.data, .data, .data, .data, .sentinel, .sentinel, .pinned], laidTests := true, laidLooks := .later }
def PermitCorrectedUptoCardSaid : Prop := Claim7.holds Tryz.pinned (.plain (OpenSpec.upto permitCorrectedSpec)) permitCorrectedUptoCard

/-- THE SECOND FORM's CARD OF 'cleanroomlaw19.PermitStopped'. -/
def permitStoppedUptoCard : Claim7 := { stood := { row := permitStoppedUptoRow, standIns := [], harness := (true, "7883561ccd6e3ec7de47bbbc0187876f0e578c371406eba4874d10aebb56aee2"), looks := true }, kinds := [], alts := [], laidByText := true, laidKinds := [.data, .data, .data, .data, .sentinel, .sentinel, .pinned], laidTests := true, laidLooks := .later }
def PermitStoppedUptoCardSaid : Prop := Claim7.holds Tryz.pinned (.plain (OpenSpec.upto permitStoppedSpec)) permitStoppedUptoCard
end Rows
end Go.Proofs.YtebobfdheanknaaGreatDoor

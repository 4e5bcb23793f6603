/-
  DERIVED. GIVEN WITH THE SEED: THE CARDS: each row of YtgehbndkogohpaaGreatDoorRows.lean that lists a variable, with what it lists TIED to the program's text (the seventh form; the later family's looks); each row that meets fmt, with fmt's text TOLD by the authors' own Lean function (tested against real Go, not proved from fmt's source: count such statements apart). THE CARD IS WHAT COUNTS. Prove the row's statement (the work); the ties are given (YtgehbndkogohpaaGreatDoorTie.lean); close each card by the builder's one call (the guide's Derived/Test/ToyasCard.lean, 'card_holds'). Laid BY PROGRAM, IN A SANDBOX (cutbox-door.mjs). By AI agents, Wed Nov 11 2026. No macro, syntax, notation, axiom, sorry.
-/
import Derived.Test.YtgehbndkogohpaaGreatDoorRows
import GoSem.ClaimSeven
namespace Go.Proofs.YtgehbndkogohpaaGreatDoor
namespace Rows

/-- THE TIED CARD OF 'cleanroomtop.TopKnownThen'. -/
def topKnownThenCard : Claim7 := { stood := { row := topKnownThenRow, standIns := [], harness := (true, "8dabaefc02998928514a6f3228580a40fa6fbd2eb7845c55793bc2e91795409e"), looks := true }, kinds := [], alts := [], laidByText := true, laidKinds := [.data, .data, .data, .data, .sentinel, .sentinel, .pinned], laidTests := true, laidLooks := .later }
def TopKnownThenCardSaid : Prop := Claim7.holds Tryz.pinned (.plain (OpenSpec.ofChange topKnownThenSpec)) topKnownThenCard

/-- THE TIED CARD OF 'cleanroomtop.TopFlowText'. -/
def topFlowTextCard : Claim7 := { stood := { row := topFlowTextRow, standIns := [], harness := (true, "8dabaefc02998928514a6f3228580a40fa6fbd2eb7845c55793bc2e91795409e"), looks := true }, kinds := [], alts := [], laidByText := true, laidKinds := [.data, .data, .data, .data, .sentinel, .sentinel, .pinned], laidTests := true, laidLooks := .later }
def TopFlowTextCardSaid : Prop := Claim7.holds Tryz.pinned (.plain (OpenSpec.ofChange topFlowTextSpec)) topFlowTextCard

/-- THE SECOND FORM's CARD OF 'cleanroomtop.TopKnownThen'. -/
def topKnownThenUptoCard : Claim7 := { stood := { row := topKnownThenUptoRow, standIns := [], harness := (true, "8dabaefc02998928514a6f3228580a40fa6fbd2eb7845c55793bc2e91795409e"), looks := true }, kinds := [], alts := [], laidByText := true, laidKinds := [.data, .data, .data, .data, .sentinel, .sentinel, .pinned], laidTests := true, laidLooks := .later }
def TopKnownThenUptoCardSaid : Prop := Claim7.holds Tryz.pinned (.plain (OpenSpec.upto topKnownThenSpec)) topKnownThenUptoCard

/-- THE SECOND FORM's CARD OF 'cleanroomtop.TopFlowText'. -/
def topFlowTextUptoCard : Claim7 := { stood := { row := topFlowTextUptoRow, standIns := [], harness := (true, "8dabaefc02998928514a6f3228580a40fa6fbd2eb7845c55793bc2e91795409e"), looks := true }, kinds := [], alts := [], laidByText := true, laidKinds := [.data, .data, .data, .data, .sentinel, .sentinel, .pinned], laidTests := true, laidLooks := .later }
def TopFlowTextUptoCardSaid : Prop := Claim7.holds Tryz.pinned (.plain (OpenSpec.upto topFlowTextSpec)) topFlowTextUptoCard
end Rows
end Go.Proofs.YtgehbndkogohpaaGreatDoor

/-
  DERIVED. GIVEN WITH THE SEED: THE CARDS: each row of YtnaeopehmdcplaaDoorRows.lean that lists a variable, with what it lists TIED to the program's text (the seventh form; the later family's looks); each row that meets fmt, with fmt's text TOLD by the authors' own Lean function (tested against real Go, not proved from fmt's source: count such statements apart). THE CARD IS WHAT COUNTS. Prove the row's statement (the work); the ties are given (YtnaeopehmdcplaaDoorTie.lean); close each card by the builder's one call (the guide's Derived/Test/ToyasCard.lean, 'card_holds'). Laid BY PROGRAM, IN A SANDBOX (cutbox-door.mjs). By AI agents, Wed Nov 11 2026. No macro, syntax, notation, axiom, sorry.
-/
import Derived.Test.YtnaeopehmdcplaaDoorRows
import GoSem.ClaimSeven
namespace Go.Proofs.YtnaeopehmdcplaaDoor
namespace Rows

/-- THE TIED CARD OF 'cleanroomlaw04.FlowRoundTrip'. -/
def flowRoundTripCard : Claim7 := { stood := { row := flowRoundTripRow, standIns := [], harness := (true, "91c32b20ada54682d9a9e6b061e535eb12bdfb07d9e0b30090f8b96d5a8ba905"), looks := true }, kinds := [], alts := [], laidByText := true, laidKinds := [.data, .data, .data, .data, .sentinel, .sentinel, .pinned], laidTests := true, laidLooks := .later }
def FlowRoundTripCardSaid : Prop := Claim7.holds Tryd.pinned (.plain (OpenSpec.ofChange flowRoundTripSpec)) flowRoundTripCard

/-- THE TIED CARD OF 'cleanroomlaw04.FlowParsedAgain'. -/
def flowParsedAgainCard : Claim7 := { stood := { row := flowParsedAgainRow, standIns := [], harness := (true, "91c32b20ada54682d9a9e6b061e535eb12bdfb07d9e0b30090f8b96d5a8ba905"), looks := true }, kinds := [], alts := [], laidByText := true, laidKinds := [.data, .data, .data, .data, .sentinel, .sentinel, .pinned], laidTests := true, laidLooks := .later }
def FlowParsedAgainCardSaid : Prop := Claim7.holds Tryd.pinned (.plain (OpenSpec.ofChange flowParsedAgainSpec)) flowParsedAgainCard

/-- THE TIED CARD OF 'cleanroomlaw04.FlowDistinct'. -/
def flowDistinctCard : Claim7 := { stood := { row := flowDistinctRow, standIns := [], harness := (true, "91c32b20ada54682d9a9e6b061e535eb12bdfb07d9e0b30090f8b96d5a8ba905"), looks := true }, kinds := [], alts := [], laidByText := true, laidKinds := [.data, .data, .data, .data, .sentinel, .sentinel, .pinned], laidTests := true, laidLooks := .later }
def FlowDistinctCardSaid : Prop := Claim7.holds Tryd.pinned (.plain (OpenSpec.ofChange flowDistinctSpec)) flowDistinctCard

/-- THE TIED CARD OF 'cleanroomlaw04.FlowLines'. -/
def flowLinesCard : Claim7 := { stood := { row := flowLinesRow, standIns := [], harness := (true, "91c32b20ada54682d9a9e6b061e535eb12bdfb07d9e0b30090f8b96d5a8ba905"), looks := true }, kinds := [], alts := [], laidByText := true, laidKinds := [.data, .data, .data, .data, .sentinel, .sentinel, .pinned], laidTests := true, laidLooks := .later }
def FlowLinesCardSaid : Prop := Claim7.holds Tryd.pinned (.plain (OpenSpec.ofChange flowLinesSpec)) flowLinesCard

/-- THE TIED CARD OF 'cleanroomlaw04.FlowFirstError'. -/
def flowFirstErrorCard : Claim7 := { stood := { row := flowFirstErrorRow, standIns := [], harness := (true, "91c32b20ada54682d9a9e6b061e535eb12bdfb07d9e0b30090f8b96d5a8ba905"), looks := true }, kinds := [], alts := [], laidByText := true, laidKinds := [.data, .data, .data, .data, .sentinel, .sentinel, .pinned], laidTests := true, laidLooks := .later }
def FlowFirstErrorCardSaid : Prop := Claim7.holds Tryd.pinned (.plain (OpenSpec.ofChange flowFirstErrorSpec)) flowFirstErrorCard

/-- THE SECOND FORM's CARD OF 'cleanroomlaw04.FlowRoundTrip'. -/
def flowRoundTripUptoCard : Claim7 := { stood := { row := flowRoundTripUptoRow, standIns := [], harness := (true, "91c32b20ada54682d9a9e6b061e535eb12bdfb07d9e0b30090f8b96d5a8ba905"), looks := true }, kinds := [], alts := [], laidByText := true, laidKinds := [.data, .data, .data, .data, .sentinel, .sentinel, .pinned], laidTests := true, laidLooks := .later }
def FlowRoundTripUptoCardSaid : Prop := Claim7.holds Tryd.pinned (.plain (OpenSpec.upto flowRoundTripSpec)) flowRoundTripUptoCard

/-- THE SECOND FORM's CARD OF 'cleanroomlaw04.FlowParsedAgain'. -/
def flowParsedAgainUptoCard : Claim7 := { stood := { row := flowParsedAgainUptoRow, standIns := [], harness := (true, "91c32b20ada54682d9a9e6b061e535eb12bdfb07d9e0b30090f8b96d5a8ba905"), looks := true }, kinds := [], alts := [], laidByText := true, laidKinds := [.data, .data, .data, .data, .sentinel, .sentinel, .pinned], laidTests := true, laidLooks := .later }
def FlowParsedAgainUptoCardSaid : Prop := Claim7.holds Tryd.pinned (.plain (OpenSpec.upto flowParsedAgainSpec)) flowParsedAgainUptoCard

/-- THE SECOND FORM's CARD OF 'cleanroomlaw04.FlowDistinct'. -/
def flowDistinctUptoCard : Claim7 := { stood := { row := flowDistinctUptoRow, standIns := [], harness := (true, "91c32b20ada54682d9a9e6b061e535eb12bdfb07d9e0b30090f8b96d5a8ba905"), looks := true }, kinds := [], alts := [], laidByText := true, laidKinds := [.data, .data, .data, .data, .sentinel, .sentinel, .pinned], laidTests := true, laidLooks := .later }
def FlowDistinctUptoCardSaid : Prop := Claim7.holds Tryd.pinned (.plain (OpenSpec.upto flowDistinctSpec)) flowDistinctUptoCard

/-- THE SECOND FORM's CARD OF 'cleanroomlaw04.FlowLines'. -/
def flowLinesUptoCard : Claim7 := { stood := { row := flowLinesUptoRow, standIns := [], harness := (true, "91c32b20ada54682d9a9e6b061e535eb12bdfb07d9e0b30090f8b96d5a8ba905"), looks := true }, kinds := [], alts := [], laidByText := true, laidKinds := [.data, .data, .data, .data, .sentinel, .sentinel, .pinned], laidTests := true, laidLooks := .later }
def FlowLinesUptoCardSaid : Prop := Claim7.holds Tryd.pinned (.plain (OpenSpec.upto flowLinesSpec)) flowLinesUptoCard

/-- THE SECOND FORM's CARD OF 'cleanroomlaw04.FlowFirstError'. -/
def flowFirstErrorUptoCard : Claim7 := { stood := { row := flowFirstErrorUptoRow, standIns := [], harness := (true, "91c32b20ada54682d9a9e6b061e535eb12bdfb07d9e0b30090f8b96d5a8ba905"), looks := true }, kinds := [], alts := [], laidByText := true, laidKinds := [.data, .data, .data, .data, .sentinel, .sentinel, .pinned], laidTests := true, laidLooks := .later }
def FlowFirstErrorUptoCardSaid : Prop := Claim7.holds Tryd.pinned (.plain (OpenSpec.upto flowFirstErrorSpec)) flowFirstErrorUptoCard
end Rows
end Go.Proofs.YtnaeopehmdcplaaDoor

/-
  DERIVED. GIVEN WITH THE SEED: THE CARDS: each row of YtnggomfbgmlkhaaGreatDoorRows.lean that lists a variable, with what it lists TIED to the program's text (the seventh form; the later family's looks); each row that meets fmt, with fmt's text TOLD by the authors' own Lean function (tested against real Go, not proved from fmt's source: count such statements apart). THE CARD IS WHAT COUNTS. Prove the row's statement (the work); the ties are given (YtnggomfbgmlkhaaGreatDoorTie.lean); close each card by the builder's one call (the guide's Derived/Test/ToyasCard.lean, 'card_holds'). Laid BY PROGRAM, IN A SANDBOX (cutbox-door.mjs). By AI agents, Wed Nov 11 2026. No macro, syntax, notation, axiom, sorry.
-/
import Derived.Test.YtnggomfbgmlkhaaGreatDoorRows
import GoSem.ClaimSeven
namespace Go.Proofs.YtnggomfbgmlkhaaGreatDoor
namespace Rows

/-- THE TIED CARD OF 'cleanroomlaw05.GraphText'. -/
def graphTextCard : Claim7 := { stood := { row := graphTextRow, standIns := [], harness := (true, "16f30819b14fdb7e39c2ca2470c367c6a17918b6bda851a12f35dbbaad954463"), looks := true }, kinds := [], alts := [], laidByText := true, laidKinds := [.data, .data, .data, .data, .sentinel, .sentinel, .pinned], laidTests := true, laidLooks := .later }
def GraphTextCardSaid : Prop := Claim7.holds Tryz.pinned (.plain (OpenSpec.ofChange graphTextSpec)) graphTextCard

/-- THE SECOND FORM's CARD OF 'cleanroomlaw05.GraphText'. -/
def graphTextUptoCard : Claim7 := { stood := { row := graphTextUptoRow, standIns := [], harness := (true, "16f30819b14fdb7e39c2ca2470c367c6a17918b6bda851a12f35dbbaad954463"), looks := true }, kinds := [], alts := [], laidByText := true, laidKinds := [.data, .data, .data, .data, .sentinel, .sentinel, .pinned], laidTests := true, laidLooks := .later }
def GraphTextUptoCardSaid : Prop := Claim7.holds Tryz.pinned (.plain (OpenSpec.upto graphTextSpec)) graphTextUptoCard
end Rows
end Go.Proofs.YtnggomfbgmlkhaaGreatDoor

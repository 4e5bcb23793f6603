/-
  No cell of these rows narrows 'for every input' (looked for: loops, veiled, ifaces, maps, wideKeys, modest, calm, conditions, laid).
  DERIVED. THE GIVEN ROWS OF THIS SEAT. 9 by the template 'for every input the law returns true; each argument reads behind the call as it read before'; 0 by the template 'total and deterministic' (their statements: YtijmlfmapfhabaaTotals.lean).
  GIVEN WITH THE SEED: the statements are not yours to turn. If you find one false, say at which input.
  Laid BY PROGRAM, IN A SANDBOX (cutbox-rows.mjs): the forced cells as the released guide's own fill.sh prints them over the translation b621db31e90f4f6e… (all of the seat's roots in one cut). By AI agents, Wed Nov 11 2026. No macro, syntax, notation, axiom, sorry.
-/
import Derived.Test.YtijmlfmapfhabaaChecked
import GoSem.Claim
import GoSem.ClaimJoined
import GoSem.ClaimMapViews
import Derived.JoinedTies
import Derived.KernelRfl
namespace Go.Proofs.Ytijmlfmapfhabaa
/- THE CELL 'sum', in the pinned program and in every row, IS THE sha256 OF THE DUMP (.gsa) THAT YtijmlfmapfhabaaProg.lean LOADS. Nothing in Lean hashes anything: it is a label: what it is worth is what the hold of that sum in a sandbox is worth. -/
noncomputable def Try.pinned : Pinned := { name := "ytijmlfmapfhabaa", sum := "b621db31e90f4f6ea21ecae766bdf262d0729420724c42fe14401f38a8747d4a", checked := Try.checked }
namespace Rows
def none {H : Type} : Left H := { results := [], args := [] }

/-- 'cleanroomlaw05.GraphMatchesReference': WHATEVER THE INPUT: true; the input reads as it did. -/
def graphMatchesReferenceSpec : ChangeSpec := { name := "graphMatchesReference", fn := fun _ => fun
  | [d1, d2, d3, d4] => { results := [.lit (.bool true)], args := [d1, d2, d3, d4] }
  | _ => none }
def graphMatchesReferenceRow : OpenClaim := { program := "ytijmlfmapfhabaa", sum := "b621db31e90f4f6ea21ecae766bdf262d0729420724c42fe14401f38a8747d4a", func := "cleanroom/cleanroomlaw05.GraphMatchesReference", spec := "graphMatchesReference", unfollowed := true, recurses := true, apart := false }
def GraphMatchesReferenceSaid : Prop := graphMatchesReferenceRow.holds Try.pinned (OpenSpec.ofChange graphMatchesReferenceSpec)

/-- ITS FALSE NEIGHBOUR: 'it returns false'. Refute it at one input. -/
def graphMatchesReferenceWrong : ChangeSpec := { name := "graphMatchesReference", fn := fun _ => fun
  | [d1, d2, d3, d4] => { results := [.lit (.bool false)], args := [d1, d2, d3, d4] }
  | _ => none }
def GraphMatchesReferenceWrongFalsely : Prop := graphMatchesReferenceRow.holds Try.pinned (OpenSpec.ofChange graphMatchesReferenceWrong)

/-- 'cleanroomlaw05.GraphReached': WHATEVER THE INPUT: true; the input reads as it did. -/
def graphReachedSpec : ChangeSpec := { name := "graphReached", fn := fun _ => fun
  | [d1, d2] => { results := [.lit (.bool true)], args := [d1, d2] }
  | _ => none }
def graphReachedRow : OpenClaim := { program := "ytijmlfmapfhabaa", sum := "b621db31e90f4f6ea21ecae766bdf262d0729420724c42fe14401f38a8747d4a", func := "cleanroom/cleanroomlaw05.GraphReached", spec := "graphReached", unfollowed := true, recurses := true, apart := false }
def GraphReachedSaid : Prop := graphReachedRow.holds Try.pinned (OpenSpec.ofChange graphReachedSpec)

/-- ITS FALSE NEIGHBOUR: 'it returns false'. Refute it at one input. -/
def graphReachedWrong : ChangeSpec := { name := "graphReached", fn := fun _ => fun
  | [d1, d2] => { results := [.lit (.bool false)], args := [d1, d2] }
  | _ => none }
def GraphReachedWrongFalsely : Prop := graphReachedRow.holds Try.pinned (OpenSpec.ofChange graphReachedWrong)

/-- 'cleanroomlaw05.GraphFlowsEnd': WHATEVER THE INPUT: true; the input reads as it did. -/
def graphFlowsEndSpec : ChangeSpec := { name := "graphFlowsEnd", fn := fun _ => fun
  | [d1, d2] => { results := [.lit (.bool true)], args := [d1, d2] }
  | _ => none }
def graphFlowsEndRow : OpenClaim := { program := "ytijmlfmapfhabaa", sum := "b621db31e90f4f6ea21ecae766bdf262d0729420724c42fe14401f38a8747d4a", func := "cleanroom/cleanroomlaw05.GraphFlowsEnd", spec := "graphFlowsEnd", unfollowed := true, recurses := true, apart := false }
def GraphFlowsEndSaid : Prop := graphFlowsEndRow.holds Try.pinned (OpenSpec.ofChange graphFlowsEndSpec)

/-- ITS FALSE NEIGHBOUR: 'it returns false'. Refute it at one input. -/
def graphFlowsEndWrong : ChangeSpec := { name := "graphFlowsEnd", fn := fun _ => fun
  | [d1, d2] => { results := [.lit (.bool false)], args := [d1, d2] }
  | _ => none }
def GraphFlowsEndWrongFalsely : Prop := graphFlowsEndRow.holds Try.pinned (OpenSpec.ofChange graphFlowsEndWrong)

/-- 'cleanroomlaw05.GraphWitness': WHATEVER THE INPUT: true; the input reads as it did. -/
def graphWitnessSpec : ChangeSpec := { name := "graphWitness", fn := fun _ => fun
  | [d] => { results := [.lit (.bool true)], args := [d] }
  | _ => none }
def graphWitnessRow : OpenClaim := { program := "ytijmlfmapfhabaa", sum := "b621db31e90f4f6ea21ecae766bdf262d0729420724c42fe14401f38a8747d4a", func := "cleanroom/cleanroomlaw05.GraphWitness", spec := "graphWitness", unfollowed := true, recurses := true, apart := false }
def GraphWitnessSaid : Prop := graphWitnessRow.holds Try.pinned (OpenSpec.ofChange graphWitnessSpec)

/-- ITS FALSE NEIGHBOUR: 'it returns false'. Refute it at one input. -/
def graphWitnessWrong : ChangeSpec := { name := "graphWitness", fn := fun _ => fun
  | [d] => { results := [.lit (.bool false)], args := [d] }
  | _ => none }
def GraphWitnessWrongFalsely : Prop := graphWitnessRow.holds Try.pinned (OpenSpec.ofChange graphWitnessWrong)

/-- 'cleanroomlaw05.GraphShortest': WHATEVER THE INPUT: true; the input reads as it did. -/
def graphShortestSpec : ChangeSpec := { name := "graphShortest", fn := fun _ => fun
  | [d] => { results := [.lit (.bool true)], args := [d] }
  | _ => none }
def graphShortestRow : OpenClaim := { program := "ytijmlfmapfhabaa", sum := "b621db31e90f4f6ea21ecae766bdf262d0729420724c42fe14401f38a8747d4a", func := "cleanroom/cleanroomlaw05.GraphShortest", spec := "graphShortest", unfollowed := true, recurses := true, apart := false }
def GraphShortestSaid : Prop := graphShortestRow.holds Try.pinned (OpenSpec.ofChange graphShortestSpec)

/-- ITS FALSE NEIGHBOUR: 'it returns false'. Refute it at one input. -/
def graphShortestWrong : ChangeSpec := { name := "graphShortest", fn := fun _ => fun
  | [d] => { results := [.lit (.bool false)], args := [d] }
  | _ => none }
def GraphShortestWrongFalsely : Prop := graphShortestRow.holds Try.pinned (OpenSpec.ofChange graphShortestWrong)

/-- 'cleanroomlaw05.GraphWays': WHATEVER THE INPUT: true; the input reads as it did. -/
def graphWaysSpec : ChangeSpec := { name := "graphWays", fn := fun _ => fun
  | [d1, d2, d3] => { results := [.lit (.bool true)], args := [d1, d2, d3] }
  | _ => none }
def graphWaysRow : OpenClaim := { program := "ytijmlfmapfhabaa", sum := "b621db31e90f4f6ea21ecae766bdf262d0729420724c42fe14401f38a8747d4a", func := "cleanroom/cleanroomlaw05.GraphWays", spec := "graphWays", unfollowed := true, recurses := true, apart := false }
def GraphWaysSaid : Prop := graphWaysRow.holds Try.pinned (OpenSpec.ofChange graphWaysSpec)

/-- ITS FALSE NEIGHBOUR: 'it returns false'. Refute it at one input. -/
def graphWaysWrong : ChangeSpec := { name := "graphWays", fn := fun _ => fun
  | [d1, d2, d3] => { results := [.lit (.bool false)], args := [d1, d2, d3] }
  | _ => none }
def GraphWaysWrongFalsely : Prop := graphWaysRow.holds Try.pinned (OpenSpec.ofChange graphWaysWrong)

/-- 'cleanroomlaw05.GraphTriangle': WHATEVER THE INPUT: true; the input reads as it did. -/
def graphTriangleSpec : ChangeSpec := { name := "graphTriangle", fn := fun _ => fun
  | [d1, d2, d3, d4] => { results := [.lit (.bool true)], args := [d1, d2, d3, d4] }
  | _ => none }
def graphTriangleRow : OpenClaim := { program := "ytijmlfmapfhabaa", sum := "b621db31e90f4f6ea21ecae766bdf262d0729420724c42fe14401f38a8747d4a", func := "cleanroom/cleanroomlaw05.GraphTriangle", spec := "graphTriangle", unfollowed := true, recurses := true, apart := false }
def GraphTriangleSaid : Prop := graphTriangleRow.holds Try.pinned (OpenSpec.ofChange graphTriangleSpec)

/-- ITS FALSE NEIGHBOUR: 'it returns false'. Refute it at one input. -/
def graphTriangleWrong : ChangeSpec := { name := "graphTriangle", fn := fun _ => fun
  | [d1, d2, d3, d4] => { results := [.lit (.bool false)], args := [d1, d2, d3, d4] }
  | _ => none }
def GraphTriangleWrongFalsely : Prop := graphTriangleRow.holds Try.pinned (OpenSpec.ofChange graphTriangleWrong)

/-- 'cleanroomlaw05.GraphAdded': WHATEVER THE INPUT: true; the input reads as it did. -/
def graphAddedSpec : ChangeSpec := { name := "graphAdded", fn := fun _ => fun
  | [d1, d2, d3, d4, d5] => { results := [.lit (.bool true)], args := [d1, d2, d3, d4, d5] }
  | _ => none }
def graphAddedRow : OpenClaim := { program := "ytijmlfmapfhabaa", sum := "b621db31e90f4f6ea21ecae766bdf262d0729420724c42fe14401f38a8747d4a", func := "cleanroom/cleanroomlaw05.GraphAdded", spec := "graphAdded", unfollowed := true, recurses := true, apart := false }
def GraphAddedSaid : Prop := graphAddedRow.holds Try.pinned (OpenSpec.ofChange graphAddedSpec)

/-- ITS FALSE NEIGHBOUR: 'it returns false'. Refute it at one input. -/
def graphAddedWrong : ChangeSpec := { name := "graphAdded", fn := fun _ => fun
  | [d1, d2, d3, d4, d5] => { results := [.lit (.bool false)], args := [d1, d2, d3, d4, d5] }
  | _ => none }
def GraphAddedWrongFalsely : Prop := graphAddedRow.holds Try.pinned (OpenSpec.ofChange graphAddedWrong)

/-- 'cleanroomlaw05.GraphFinish': WHATEVER THE INPUT: true; the input reads as it did. -/
def graphFinishSpec : ChangeSpec := { name := "graphFinish", fn := fun _ => fun
  | [d1, d2] => { results := [.lit (.bool true)], args := [d1, d2] }
  | _ => none }
def graphFinishRow : OpenClaim := { program := "ytijmlfmapfhabaa", sum := "b621db31e90f4f6ea21ecae766bdf262d0729420724c42fe14401f38a8747d4a", func := "cleanroom/cleanroomlaw05.GraphFinish", spec := "graphFinish", unfollowed := true, recurses := true, apart := false }
def GraphFinishSaid : Prop := graphFinishRow.holds Try.pinned (OpenSpec.ofChange graphFinishSpec)

/-- ITS FALSE NEIGHBOUR: 'it returns false'. Refute it at one input. -/
def graphFinishWrong : ChangeSpec := { name := "graphFinish", fn := fun _ => fun
  | [d1, d2] => { results := [.lit (.bool false)], args := [d1, d2] }
  | _ => none }
def GraphFinishWrongFalsely : Prop := graphFinishRow.holds Try.pinned (OpenSpec.ofChange graphFinishWrong)

/- THE SECOND FORM. 'bulk': how many values and letters a reading holds, each counted each time it is reached (what is shared counts as often as it is met; a slice's spare places count too). A statement '..UptoSaid' is the law's where the arguments, and the package variables that the reading takes, are together of bulk at most 1048576: NARROWER than '..Said'. Prove '..Said' where nothing that the law and all that it calls make is longer than what came in: it says more and counts as full. Else prove '..UptoSaid'. A law counts once. -/
mutual
def uptoBulk {H : Type} : DataW H → Nat
  | .lit (.string bytes) => bytes.length + 1
  | .lit _ => 1
  | .nil => 1
  | .ptr d => uptoBulk d + 1
  | .slice elems spare => uptoBulkAll elems + uptoBulkAll spare + 1
  | .agg parts => uptoBulkAll parts + 1
  | .iface _ d => uptoBulk d + 1
  | .map entries => uptoBulkEntries entries + 1
  | .held _ => 1
def uptoBulkAll {H : Type} : List (DataW H) → Nat
  | [] => 0
  | d :: r => uptoBulk d + uptoBulkAll r
def uptoBulkEntries {H : Type} : List (Lit × DataW H) → Nat
  | [] => 0
  | x :: r => uptoBulkEntry x + uptoBulkEntries r
def uptoBulkEntry {H : Type} : Lit × DataW H → Nat
  | (.string bytes, d) => bytes.length + uptoBulk d + 1
  | (_, d) => uptoBulk d + 1
 end
def uptoSmall : (H : Type) → List (DataW H) → Bool := fun _ ds => decide (uptoBulkAll ds ≤ 1048576)
def OpenSpec.upto (s : _root_.Go.ChangeSpec) : _root_.Go.OpenSpec := { _root_.Go.OpenSpec.ofChange s with cond := some uptoSmall }

/-- 'cleanroomlaw05.GraphMatchesReference', WHERE WHAT IT READS IS OF BULK AT MOST 1048576: true; the input reads as it did. -/
def graphMatchesReferenceUptoRow : OpenClaim := { program := "ytijmlfmapfhabaa", sum := "b621db31e90f4f6ea21ecae766bdf262d0729420724c42fe14401f38a8747d4a", func := "cleanroom/cleanroomlaw05.GraphMatchesReference", spec := "graphMatchesReference", unfollowed := true, recurses := true, apart := false, narrowed := true }
def GraphMatchesReferenceUptoSaid : Prop := graphMatchesReferenceUptoRow.holds Try.pinned (OpenSpec.upto graphMatchesReferenceSpec)

/-- 'cleanroomlaw05.GraphReached', WHERE WHAT IT READS IS OF BULK AT MOST 1048576: true; the input reads as it did. -/
def graphReachedUptoRow : OpenClaim := { program := "ytijmlfmapfhabaa", sum := "b621db31e90f4f6ea21ecae766bdf262d0729420724c42fe14401f38a8747d4a", func := "cleanroom/cleanroomlaw05.GraphReached", spec := "graphReached", unfollowed := true, recurses := true, apart := false, narrowed := true }
def GraphReachedUptoSaid : Prop := graphReachedUptoRow.holds Try.pinned (OpenSpec.upto graphReachedSpec)

/-- 'cleanroomlaw05.GraphFlowsEnd', WHERE WHAT IT READS IS OF BULK AT MOST 1048576: true; the input reads as it did. -/
def graphFlowsEndUptoRow : OpenClaim := { program := "ytijmlfmapfhabaa", sum := "b621db31e90f4f6ea21ecae766bdf262d0729420724c42fe14401f38a8747d4a", func := "cleanroom/cleanroomlaw05.GraphFlowsEnd", spec := "graphFlowsEnd", unfollowed := true, recurses := true, apart := false, narrowed := true }
def GraphFlowsEndUptoSaid : Prop := graphFlowsEndUptoRow.holds Try.pinned (OpenSpec.upto graphFlowsEndSpec)

/-- 'cleanroomlaw05.GraphWitness', WHERE WHAT IT READS IS OF BULK AT MOST 1048576: true; the input reads as it did. -/
def graphWitnessUptoRow : OpenClaim := { program := "ytijmlfmapfhabaa", sum := "b621db31e90f4f6ea21ecae766bdf262d0729420724c42fe14401f38a8747d4a", func := "cleanroom/cleanroomlaw05.GraphWitness", spec := "graphWitness", unfollowed := true, recurses := true, apart := false, narrowed := true }
def GraphWitnessUptoSaid : Prop := graphWitnessUptoRow.holds Try.pinned (OpenSpec.upto graphWitnessSpec)

/-- 'cleanroomlaw05.GraphShortest', WHERE WHAT IT READS IS OF BULK AT MOST 1048576: true; the input reads as it did. -/
def graphShortestUptoRow : OpenClaim := { program := "ytijmlfmapfhabaa", sum := "b621db31e90f4f6ea21ecae766bdf262d0729420724c42fe14401f38a8747d4a", func := "cleanroom/cleanroomlaw05.GraphShortest", spec := "graphShortest", unfollowed := true, recurses := true, apart := false, narrowed := true }
def GraphShortestUptoSaid : Prop := graphShortestUptoRow.holds Try.pinned (OpenSpec.upto graphShortestSpec)

/-- 'cleanroomlaw05.GraphWays', WHERE WHAT IT READS IS OF BULK AT MOST 1048576: true; the input reads as it did. -/
def graphWaysUptoRow : OpenClaim := { program := "ytijmlfmapfhabaa", sum := "b621db31e90f4f6ea21ecae766bdf262d0729420724c42fe14401f38a8747d4a", func := "cleanroom/cleanroomlaw05.GraphWays", spec := "graphWays", unfollowed := true, recurses := true, apart := false, narrowed := true }
def GraphWaysUptoSaid : Prop := graphWaysUptoRow.holds Try.pinned (OpenSpec.upto graphWaysSpec)

/-- 'cleanroomlaw05.GraphTriangle', WHERE WHAT IT READS IS OF BULK AT MOST 1048576: true; the input reads as it did. -/
def graphTriangleUptoRow : OpenClaim := { program := "ytijmlfmapfhabaa", sum := "b621db31e90f4f6ea21ecae766bdf262d0729420724c42fe14401f38a8747d4a", func := "cleanroom/cleanroomlaw05.GraphTriangle", spec := "graphTriangle", unfollowed := true, recurses := true, apart := false, narrowed := true }
def GraphTriangleUptoSaid : Prop := graphTriangleUptoRow.holds Try.pinned (OpenSpec.upto graphTriangleSpec)

/-- 'cleanroomlaw05.GraphAdded', WHERE WHAT IT READS IS OF BULK AT MOST 1048576: true; the input reads as it did. -/
def graphAddedUptoRow : OpenClaim := { program := "ytijmlfmapfhabaa", sum := "b621db31e90f4f6ea21ecae766bdf262d0729420724c42fe14401f38a8747d4a", func := "cleanroom/cleanroomlaw05.GraphAdded", spec := "graphAdded", unfollowed := true, recurses := true, apart := false, narrowed := true }
def GraphAddedUptoSaid : Prop := graphAddedUptoRow.holds Try.pinned (OpenSpec.upto graphAddedSpec)

/-- 'cleanroomlaw05.GraphFinish', WHERE WHAT IT READS IS OF BULK AT MOST 1048576: true; the input reads as it did. -/
def graphFinishUptoRow : OpenClaim := { program := "ytijmlfmapfhabaa", sum := "b621db31e90f4f6ea21ecae766bdf262d0729420724c42fe14401f38a8747d4a", func := "cleanroom/cleanroomlaw05.GraphFinish", spec := "graphFinish", unfollowed := true, recurses := true, apart := false, narrowed := true }
def GraphFinishUptoSaid : Prop := graphFinishUptoRow.holds Try.pinned (OpenSpec.upto graphFinishSpec)

end Rows
end Go.Proofs.Ytijmlfmapfhabaa

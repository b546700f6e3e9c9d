/-
  No cell of these rows narrows 'for every input' (looked for: loops, veiled, ifaces, maps, wideKeys, modest, calm, conditions, laid).
  DERIVED. THE GIVEN ROWS OF THIS SEAT. 11 by the template 'for every input the law returns true; each argument reads behind the call as it read before'; 0 by the template 'total and deterministic' (their statements: YtmabfnddedffoaaTotals.lean).
  GIVEN WITH THE SEED: the statements are not yours to turn. If you find one false, say at which input.
  Laid BY PROGRAM, IN A SANDBOX (cutbox-rows.mjs): the forced cells as the released guide's own fill.sh prints them over the translation 69855fa0e4a32b98… (all of the seat's roots in one cut). By AI agents, Wed Nov 11 2026. No macro, syntax, notation, axiom, sorry.
-/
import Derived.Test.YtmabfnddedffoaaChecked
import GoSem.Claim
import GoSem.ClaimJoined
import GoSem.ClaimMapViews
import Derived.JoinedTies
import Derived.KernelRfl
namespace Go.Proofs.Ytmabfnddedffoaa
/- THE CELL 'sum', in the pinned program and in every row, IS THE sha256 OF THE DUMP (.gsa) THAT YtmabfnddedffoaaProg.lean LOADS. Nothing in Lean hashes anything: it is a label: what it is worth is what the hold of that sum in a sandbox is worth. -/
noncomputable def Try.pinned : Pinned := { name := "ytmabfnddedffoaa", sum := "69855fa0e4a32b98eecaca1c767e68881c4c628e34839abe855eac18aaccedab", checked := Try.checked }
namespace Rows
def none {H : Type} : Left H := { results := [], args := [] }

/-- 'ignitionlaw06.LoomChecks': WHATEVER THE INPUT: true; the input reads as it did. -/
def loomChecksSpec : ChangeSpec := { name := "loomChecks", fn := fun _ => fun
  | [d] => { results := [.lit (.bool true)], args := [d] }
  | _ => none }
def loomChecksRow : OpenClaim := { program := "ytmabfnddedffoaa", sum := "69855fa0e4a32b98eecaca1c767e68881c4c628e34839abe855eac18aaccedab", func := "ignition/ignitionlaw06.LoomChecks", spec := "loomChecks", unfollowed := true, recurses := true, plainKeys := false, apart := false }
def LoomChecksSaid : Prop := loomChecksRow.holds Try.pinned (OpenSpec.ofChange loomChecksSpec)

/-- ITS FALSE NEIGHBOUR: 'it returns false'. Refute it at one input. -/
def loomChecksWrong : ChangeSpec := { name := "loomChecks", fn := fun _ => fun
  | [d] => { results := [.lit (.bool false)], args := [d] }
  | _ => none }
def LoomChecksWrongFalsely : Prop := loomChecksRow.holds Try.pinned (OpenSpec.ofChange loomChecksWrong)

/-- 'ignitionlaw06.LoomWorst': WHATEVER THE INPUT: true; the input reads as it did. -/
def loomWorstSpec : ChangeSpec := { name := "loomWorst", fn := fun _ => fun
  | [d1, d2] => { results := [.lit (.bool true)], args := [d1, d2] }
  | _ => none }
def loomWorstRow : OpenClaim := { program := "ytmabfnddedffoaa", sum := "69855fa0e4a32b98eecaca1c767e68881c4c628e34839abe855eac18aaccedab", func := "ignition/ignitionlaw06.LoomWorst", spec := "loomWorst", unfollowed := true, recurses := true, plainKeys := false, apart := false }
def LoomWorstSaid : Prop := loomWorstRow.holds Try.pinned (OpenSpec.ofChange loomWorstSpec)

/-- ITS FALSE NEIGHBOUR: 'it returns false'. Refute it at one input. -/
def loomWorstWrong : ChangeSpec := { name := "loomWorst", fn := fun _ => fun
  | [d1, d2] => { results := [.lit (.bool false)], args := [d1, d2] }
  | _ => none }
def LoomWorstWrongFalsely : Prop := loomWorstRow.holds Try.pinned (OpenSpec.ofChange loomWorstWrong)

/-- 'ignitionlaw06.LoomDistances': WHATEVER THE INPUT: true; the input reads as it did. -/
def loomDistancesSpec : ChangeSpec := { name := "loomDistances", fn := fun _ => fun
  | [d1, d2, d3] => { results := [.lit (.bool true)], args := [d1, d2, d3] }
  | _ => none }
def loomDistancesRow : OpenClaim := { program := "ytmabfnddedffoaa", sum := "69855fa0e4a32b98eecaca1c767e68881c4c628e34839abe855eac18aaccedab", func := "ignition/ignitionlaw06.LoomDistances", spec := "loomDistances", unfollowed := true, recurses := true, plainKeys := false, apart := false }
def LoomDistancesSaid : Prop := loomDistancesRow.holds Try.pinned (OpenSpec.ofChange loomDistancesSpec)

/-- ITS FALSE NEIGHBOUR: 'it returns false'. Refute it at one input. -/
def loomDistancesWrong : ChangeSpec := { name := "loomDistances", fn := fun _ => fun
  | [d1, d2, d3] => { results := [.lit (.bool false)], args := [d1, d2, d3] }
  | _ => none }
def LoomDistancesWrongFalsely : Prop := loomDistancesRow.holds Try.pinned (OpenSpec.ofChange loomDistancesWrong)

/-- 'ignitionlaw06.LoomSplices': WHATEVER THE INPUT: true; the input reads as it did. -/
def loomSplicesSpec : ChangeSpec := { name := "loomSplices", fn := fun _ => fun
  | [d1, d2] => { results := [.lit (.bool true)], args := [d1, d2] }
  | _ => none }
def loomSplicesRow : OpenClaim := { program := "ytmabfnddedffoaa", sum := "69855fa0e4a32b98eecaca1c767e68881c4c628e34839abe855eac18aaccedab", func := "ignition/ignitionlaw06.LoomSplices", spec := "loomSplices", unfollowed := true, recurses := true, plainKeys := false, apart := false }
def LoomSplicesSaid : Prop := loomSplicesRow.holds Try.pinned (OpenSpec.ofChange loomSplicesSpec)

/-- ITS FALSE NEIGHBOUR: 'it returns false'. Refute it at one input. -/
def loomSplicesWrong : ChangeSpec := { name := "loomSplices", fn := fun _ => fun
  | [d1, d2] => { results := [.lit (.bool false)], args := [d1, d2] }
  | _ => none }
def LoomSplicesWrongFalsely : Prop := loomSplicesRow.holds Try.pinned (OpenSpec.ofChange loomSplicesWrong)

/-- 'ignitionlaw06.LoomRoutes': WHATEVER THE INPUT: true; the input reads as it did. -/
def loomRoutesSpec : ChangeSpec := { name := "loomRoutes", fn := fun _ => fun
  | [d1, d2] => { results := [.lit (.bool true)], args := [d1, d2] }
  | _ => none }
def loomRoutesRow : OpenClaim := { program := "ytmabfnddedffoaa", sum := "69855fa0e4a32b98eecaca1c767e68881c4c628e34839abe855eac18aaccedab", func := "ignition/ignitionlaw06.LoomRoutes", spec := "loomRoutes", unfollowed := true, recurses := true, plainKeys := false, apart := false }
def LoomRoutesSaid : Prop := loomRoutesRow.holds Try.pinned (OpenSpec.ofChange loomRoutesSpec)

/-- ITS FALSE NEIGHBOUR: 'it returns false'. Refute it at one input. -/
def loomRoutesWrong : ChangeSpec := { name := "loomRoutes", fn := fun _ => fun
  | [d1, d2] => { results := [.lit (.bool false)], args := [d1, d2] }
  | _ => none }
def LoomRoutesWrongFalsely : Prop := loomRoutesRow.holds Try.pinned (OpenSpec.ofChange loomRoutesWrong)

/-- 'ignitionlaw06.LoomFills': WHATEVER THE INPUT: true; the input reads as it did. -/
def loomFillsSpec : ChangeSpec := { name := "loomFills", fn := fun _ => fun
  | [d1, d2, d3] => { results := [.lit (.bool true)], args := [d1, d2, d3] }
  | _ => none }
def loomFillsRow : OpenClaim := { program := "ytmabfnddedffoaa", sum := "69855fa0e4a32b98eecaca1c767e68881c4c628e34839abe855eac18aaccedab", func := "ignition/ignitionlaw06.LoomFills", spec := "loomFills", unfollowed := true, recurses := true, plainKeys := false, apart := false }
def LoomFillsSaid : Prop := loomFillsRow.holds Try.pinned (OpenSpec.ofChange loomFillsSpec)

/-- ITS FALSE NEIGHBOUR: 'it returns false'. Refute it at one input. -/
def loomFillsWrong : ChangeSpec := { name := "loomFills", fn := fun _ => fun
  | [d1, d2, d3] => { results := [.lit (.bool false)], args := [d1, d2, d3] }
  | _ => none }
def LoomFillsWrongFalsely : Prop := loomFillsRow.holds Try.pinned (OpenSpec.ofChange loomFillsWrong)

/-- 'ignitionlaw06.LoomMoves': WHATEVER THE INPUT: true; the input reads as it did. -/
def loomMovesSpec : ChangeSpec := { name := "loomMoves", fn := fun _ => fun
  | [d1, d2, d3] => { results := [.lit (.bool true)], args := [d1, d2, d3] }
  | _ => none }
def loomMovesRow : OpenClaim := { program := "ytmabfnddedffoaa", sum := "69855fa0e4a32b98eecaca1c767e68881c4c628e34839abe855eac18aaccedab", func := "ignition/ignitionlaw06.LoomMoves", spec := "loomMoves", unfollowed := true, recurses := true, plainKeys := false, apart := false }
def LoomMovesSaid : Prop := loomMovesRow.holds Try.pinned (OpenSpec.ofChange loomMovesSpec)

/-- ITS FALSE NEIGHBOUR: 'it returns false'. Refute it at one input. -/
def loomMovesWrong : ChangeSpec := { name := "loomMoves", fn := fun _ => fun
  | [d1, d2, d3] => { results := [.lit (.bool false)], args := [d1, d2, d3] }
  | _ => none }
def LoomMovesWrongFalsely : Prop := loomMovesRow.holds Try.pinned (OpenSpec.ofChange loomMovesWrong)

/-- 'ignitionlaw06.LoomClashes': WHATEVER THE INPUT: true; the input reads as it did. -/
def loomClashesSpec : ChangeSpec := { name := "loomClashes", fn := fun _ => fun
  | [d] => { results := [.lit (.bool true)], args := [d] }
  | _ => none }
def loomClashesRow : OpenClaim := { program := "ytmabfnddedffoaa", sum := "69855fa0e4a32b98eecaca1c767e68881c4c628e34839abe855eac18aaccedab", func := "ignition/ignitionlaw06.LoomClashes", spec := "loomClashes", unfollowed := true, recurses := true, plainKeys := false, apart := false }
def LoomClashesSaid : Prop := loomClashesRow.holds Try.pinned (OpenSpec.ofChange loomClashesSpec)

/-- ITS FALSE NEIGHBOUR: 'it returns false'. Refute it at one input. -/
def loomClashesWrong : ChangeSpec := { name := "loomClashes", fn := fun _ => fun
  | [d] => { results := [.lit (.bool false)], args := [d] }
  | _ => none }
def LoomClashesWrongFalsely : Prop := loomClashesRow.holds Try.pinned (OpenSpec.ofChange loomClashesWrong)

/-- 'ignitionlaw06.LoomMeasures': WHATEVER THE INPUT: true; the input reads as it did. -/
def loomMeasuresSpec : ChangeSpec := { name := "loomMeasures", fn := fun _ => fun
  | [d1, d2] => { results := [.lit (.bool true)], args := [d1, d2] }
  | _ => none }
def loomMeasuresRow : OpenClaim := { program := "ytmabfnddedffoaa", sum := "69855fa0e4a32b98eecaca1c767e68881c4c628e34839abe855eac18aaccedab", func := "ignition/ignitionlaw06.LoomMeasures", spec := "loomMeasures", unfollowed := true, recurses := true, plainKeys := false, apart := false }
def LoomMeasuresSaid : Prop := loomMeasuresRow.holds Try.pinned (OpenSpec.ofChange loomMeasuresSpec)

/-- ITS FALSE NEIGHBOUR: 'it returns false'. Refute it at one input. -/
def loomMeasuresWrong : ChangeSpec := { name := "loomMeasures", fn := fun _ => fun
  | [d1, d2] => { results := [.lit (.bool false)], args := [d1, d2] }
  | _ => none }
def LoomMeasuresWrongFalsely : Prop := loomMeasuresRow.holds Try.pinned (OpenSpec.ofChange loomMeasuresWrong)

/-- 'ignitionlaw06.LoomNeverMore': WHATEVER THE INPUT: true; the input reads as it did. -/
def loomNeverMoreSpec : ChangeSpec := { name := "loomNeverMore", fn := fun _ => fun
  | [d1, d2] => { results := [.lit (.bool true)], args := [d1, d2] }
  | _ => none }
def loomNeverMoreRow : OpenClaim := { program := "ytmabfnddedffoaa", sum := "69855fa0e4a32b98eecaca1c767e68881c4c628e34839abe855eac18aaccedab", func := "ignition/ignitionlaw06.LoomNeverMore", spec := "loomNeverMore", unfollowed := true, recurses := true, plainKeys := false, apart := false }
def LoomNeverMoreSaid : Prop := loomNeverMoreRow.holds Try.pinned (OpenSpec.ofChange loomNeverMoreSpec)

/-- ITS FALSE NEIGHBOUR: 'it returns false'. Refute it at one input. -/
def loomNeverMoreWrong : ChangeSpec := { name := "loomNeverMore", fn := fun _ => fun
  | [d1, d2] => { results := [.lit (.bool false)], args := [d1, d2] }
  | _ => none }
def LoomNeverMoreWrongFalsely : Prop := loomNeverMoreRow.holds Try.pinned (OpenSpec.ofChange loomNeverMoreWrong)

/-- 'ignitionlaw06.LoomOneEach': WHATEVER THE INPUT: true; the input reads as it did. -/
def loomOneEachSpec : ChangeSpec := { name := "loomOneEach", fn := fun _ => fun
  | [d1, d2, d3] => { results := [.lit (.bool true)], args := [d1, d2, d3] }
  | _ => none }
def loomOneEachRow : OpenClaim := { program := "ytmabfnddedffoaa", sum := "69855fa0e4a32b98eecaca1c767e68881c4c628e34839abe855eac18aaccedab", func := "ignition/ignitionlaw06.LoomOneEach", spec := "loomOneEach", unfollowed := true, recurses := true, plainKeys := false, apart := false }
def LoomOneEachSaid : Prop := loomOneEachRow.holds Try.pinned (OpenSpec.ofChange loomOneEachSpec)

/-- ITS FALSE NEIGHBOUR: 'it returns false'. Refute it at one input. -/
def loomOneEachWrong : ChangeSpec := { name := "loomOneEach", fn := fun _ => fun
  | [d1, d2, d3] => { results := [.lit (.bool false)], args := [d1, d2, d3] }
  | _ => none }
def LoomOneEachWrongFalsely : Prop := loomOneEachRow.holds Try.pinned (OpenSpec.ofChange loomOneEachWrong)

/- THE SECOND FORM. 'bulk': how many values and letters a reading holds, each counted each time it is reached (what is shared counts as often as it is met; a slice's spare places count too). A statement '..UptoSaid' is the law's where the arguments, and the package variables that the reading takes, are together of bulk at most 1048576: NARROWER than '..Said'. Prove '..Said' where nothing that the law and all that it calls make is longer than what came in: it says more and counts as full. Else prove '..UptoSaid'. A law counts once. -/
mutual
def uptoBulk {H : Type} : DataW H → Nat
  | .lit (.string bytes) => bytes.length + 1
  | .lit _ => 1
  | .nil => 1
  | .ptr d => uptoBulk d + 1
  | .slice elems spare => uptoBulkAll elems + uptoBulkAll spare + 1
  | .agg parts => uptoBulkAll parts + 1
  | .iface _ d => uptoBulk d + 1
  | .map entries => uptoBulkEntries entries + 1
  | .held _ => 1
def uptoBulkAll {H : Type} : List (DataW H) → Nat
  | [] => 0
  | d :: r => uptoBulk d + uptoBulkAll r
def uptoBulkEntries {H : Type} : List (Lit × DataW H) → Nat
  | [] => 0
  | x :: r => uptoBulkEntry x + uptoBulkEntries r
def uptoBulkEntry {H : Type} : Lit × DataW H → Nat
  | (.string bytes, d) => bytes.length + uptoBulk d + 1
  | (_, d) => uptoBulk d + 1
 end
def uptoSmall : (H : Type) → List (DataW H) → Bool := fun _ ds => decide (uptoBulkAll ds ≤ 1048576)
def OpenSpec.upto (s : _root_.Go.ChangeSpec) : _root_.Go.OpenSpec := { _root_.Go.OpenSpec.ofChange s with cond := some uptoSmall }

/-- 'ignitionlaw06.LoomChecks', WHERE WHAT IT READS IS OF BULK AT MOST 1048576: true; the input reads as it did. -/
def loomChecksUptoRow : OpenClaim := { program := "ytmabfnddedffoaa", sum := "69855fa0e4a32b98eecaca1c767e68881c4c628e34839abe855eac18aaccedab", func := "ignition/ignitionlaw06.LoomChecks", spec := "loomChecks", unfollowed := true, recurses := true, plainKeys := false, apart := false, narrowed := true }
def LoomChecksUptoSaid : Prop := loomChecksUptoRow.holds Try.pinned (OpenSpec.upto loomChecksSpec)

/-- 'ignitionlaw06.LoomWorst', WHERE WHAT IT READS IS OF BULK AT MOST 1048576: true; the input reads as it did. -/
def loomWorstUptoRow : OpenClaim := { program := "ytmabfnddedffoaa", sum := "69855fa0e4a32b98eecaca1c767e68881c4c628e34839abe855eac18aaccedab", func := "ignition/ignitionlaw06.LoomWorst", spec := "loomWorst", unfollowed := true, recurses := true, plainKeys := false, apart := false, narrowed := true }
def LoomWorstUptoSaid : Prop := loomWorstUptoRow.holds Try.pinned (OpenSpec.upto loomWorstSpec)

/-- 'ignitionlaw06.LoomDistances', WHERE WHAT IT READS IS OF BULK AT MOST 1048576: true; the input reads as it did. -/
def loomDistancesUptoRow : OpenClaim := { program := "ytmabfnddedffoaa", sum := "69855fa0e4a32b98eecaca1c767e68881c4c628e34839abe855eac18aaccedab", func := "ignition/ignitionlaw06.LoomDistances", spec := "loomDistances", unfollowed := true, recurses := true, plainKeys := false, apart := false, narrowed := true }
def LoomDistancesUptoSaid : Prop := loomDistancesUptoRow.holds Try.pinned (OpenSpec.upto loomDistancesSpec)

/-- 'ignitionlaw06.LoomSplices', WHERE WHAT IT READS IS OF BULK AT MOST 1048576: true; the input reads as it did. -/
def loomSplicesUptoRow : OpenClaim := { program := "ytmabfnddedffoaa", sum := "69855fa0e4a32b98eecaca1c767e68881c4c628e34839abe855eac18aaccedab", func := "ignition/ignitionlaw06.LoomSplices", spec := "loomSplices", unfollowed := true, recurses := true, plainKeys := false, apart := false, narrowed := true }
def LoomSplicesUptoSaid : Prop := loomSplicesUptoRow.holds Try.pinned (OpenSpec.upto loomSplicesSpec)

/-- 'ignitionlaw06.LoomRoutes', WHERE WHAT IT READS IS OF BULK AT MOST 1048576: true; the input reads as it did. -/
def loomRoutesUptoRow : OpenClaim := { program := "ytmabfnddedffoaa", sum := "69855fa0e4a32b98eecaca1c767e68881c4c628e34839abe855eac18aaccedab", func := "ignition/ignitionlaw06.LoomRoutes", spec := "loomRoutes", unfollowed := true, recurses := true, plainKeys := false, apart := false, narrowed := true }
def LoomRoutesUptoSaid : Prop := loomRoutesUptoRow.holds Try.pinned (OpenSpec.upto loomRoutesSpec)

/-- 'ignitionlaw06.LoomFills', WHERE WHAT IT READS IS OF BULK AT MOST 1048576: true; the input reads as it did. -/
def loomFillsUptoRow : OpenClaim := { program := "ytmabfnddedffoaa", sum := "69855fa0e4a32b98eecaca1c767e68881c4c628e34839abe855eac18aaccedab", func := "ignition/ignitionlaw06.LoomFills", spec := "loomFills", unfollowed := true, recurses := true, plainKeys := false, apart := false, narrowed := true }
def LoomFillsUptoSaid : Prop := loomFillsUptoRow.holds Try.pinned (OpenSpec.upto loomFillsSpec)

/-- 'ignitionlaw06.LoomMoves', WHERE WHAT IT READS IS OF BULK AT MOST 1048576: true; the input reads as it did. -/
def loomMovesUptoRow : OpenClaim := { program := "ytmabfnddedffoaa", sum := "69855fa0e4a32b98eecaca1c767e68881c4c628e34839abe855eac18aaccedab", func := "ignition/ignitionlaw06.LoomMoves", spec := "loomMoves", unfollowed := true, recurses := true, plainKeys := false, apart := false, narrowed := true }
def LoomMovesUptoSaid : Prop := loomMovesUptoRow.holds Try.pinned (OpenSpec.upto loomMovesSpec)

/-- 'ignitionlaw06.LoomClashes', WHERE WHAT IT READS IS OF BULK AT MOST 1048576: true; the input reads as it did. -/
def loomClashesUptoRow : OpenClaim := { program := "ytmabfnddedffoaa", sum := "69855fa0e4a32b98eecaca1c767e68881c4c628e34839abe855eac18aaccedab", func := "ignition/ignitionlaw06.LoomClashes", spec := "loomClashes", unfollowed := true, recurses := true, plainKeys := false, apart := false, narrowed := true }
def LoomClashesUptoSaid : Prop := loomClashesUptoRow.holds Try.pinned (OpenSpec.upto loomClashesSpec)

/-- 'ignitionlaw06.LoomMeasures', WHERE WHAT IT READS IS OF BULK AT MOST 1048576: true; the input reads as it did. -/
def loomMeasuresUptoRow : OpenClaim := { program := "ytmabfnddedffoaa", sum := "69855fa0e4a32b98eecaca1c767e68881c4c628e34839abe855eac18aaccedab", func := "ignition/ignitionlaw06.LoomMeasures", spec := "loomMeasures", unfollowed := true, recurses := true, plainKeys := false, apart := false, narrowed := true }
def LoomMeasuresUptoSaid : Prop := loomMeasuresUptoRow.holds Try.pinned (OpenSpec.upto loomMeasuresSpec)

/-- 'ignitionlaw06.LoomNeverMore', WHERE WHAT IT READS IS OF BULK AT MOST 1048576: true; the input reads as it did. -/
def loomNeverMoreUptoRow : OpenClaim := { program := "ytmabfnddedffoaa", sum := "69855fa0e4a32b98eecaca1c767e68881c4c628e34839abe855eac18aaccedab", func := "ignition/ignitionlaw06.LoomNeverMore", spec := "loomNeverMore", unfollowed := true, recurses := true, plainKeys := false, apart := false, narrowed := true }
def LoomNeverMoreUptoSaid : Prop := loomNeverMoreUptoRow.holds Try.pinned (OpenSpec.upto loomNeverMoreSpec)

/-- 'ignitionlaw06.LoomOneEach', WHERE WHAT IT READS IS OF BULK AT MOST 1048576: true; the input reads as it did. -/
def loomOneEachUptoRow : OpenClaim := { program := "ytmabfnddedffoaa", sum := "69855fa0e4a32b98eecaca1c767e68881c4c628e34839abe855eac18aaccedab", func := "ignition/ignitionlaw06.LoomOneEach", spec := "loomOneEach", unfollowed := true, recurses := true, plainKeys := false, apart := false, narrowed := true }
def LoomOneEachUptoSaid : Prop := loomOneEachUptoRow.holds Try.pinned (OpenSpec.upto loomOneEachSpec)

end Rows
end Go.Proofs.Ytmabfnddedffoaa

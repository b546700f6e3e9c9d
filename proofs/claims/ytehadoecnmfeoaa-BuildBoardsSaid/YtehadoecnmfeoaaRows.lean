/-
  No cell of these rows narrows 'for every input' (looked for: loops, veiled, ifaces, maps, wideKeys, modest, calm, conditions, laid).
  DERIVED. THE GIVEN ROWS OF THIS SEAT. 4 by the template 'for every input the law returns true; each argument reads behind the call as it read before'; 0 by the template 'total and deterministic' (their statements: YtehadoecnmfeoaaTotals.lean).
  GIVEN WITH THE SEED: the statements are not yours to turn. If you find one false, say at which input.
  Laid BY PROGRAM, IN A SANDBOX (cutbox-rows.mjs): the forced cells as the released guide's own fill.sh prints them over the translation 819e81b6ba84e67a… (all of the seat's roots in one cut). By AI agents, Wed Nov 11 2026. No macro, syntax, notation, axiom, sorry.
-/
import Derived.Test.YtehadoecnmfeoaaChecked
import GoSem.Claim
import GoSem.ClaimJoined
import GoSem.ClaimMapViews
import Derived.JoinedTies
import Derived.KernelRfl
namespace Go.Proofs.Ytehadoecnmfeoaa
/- THE CELL 'sum', in the pinned program and in every row, IS THE sha256 OF THE DUMP (.gsa) THAT YtehadoecnmfeoaaProg.lean LOADS. Nothing in Lean hashes anything: it is a label: what it is worth is what the hold of that sum in a sandbox is worth. -/
noncomputable def Try.pinned : Pinned := { name := "ytehadoecnmfeoaa", sum := "819e81b6ba84e67adafecf687b024278bee0bab3c6e109c077c33aa248afba0d", checked := Try.checked }
namespace Rows
def none {H : Type} : Left H := { results := [], args := [] }

/-- 'ignitionlaw12.BuildReels': WHATEVER THE INPUT: true; the input reads as it did. -/
def buildReelsSpec : ChangeSpec := { name := "buildReels", fn := fun _ => fun
  | [d1, d2] => { results := [.lit (.bool true)], args := [d1, d2] }
  | _ => none }
def buildReelsRow : OpenClaim := { program := "ytehadoecnmfeoaa", sum := "819e81b6ba84e67adafecf687b024278bee0bab3c6e109c077c33aa248afba0d", func := "ignition/ignitionlaw12.BuildReels", spec := "buildReels", unfollowed := true, recurses := true, plainKeys := false, apart := false }
def BuildReelsSaid : Prop := buildReelsRow.holds Try.pinned (OpenSpec.ofChange buildReelsSpec)

/-- ITS FALSE NEIGHBOUR: 'it returns false'. Refute it at one input. -/
def buildReelsWrong : ChangeSpec := { name := "buildReels", fn := fun _ => fun
  | [d1, d2] => { results := [.lit (.bool false)], args := [d1, d2] }
  | _ => none }
def BuildReelsWrongFalsely : Prop := buildReelsRow.holds Try.pinned (OpenSpec.ofChange buildReelsWrong)

/-- 'ignitionlaw12.BuildFewest': WHATEVER THE INPUT: true; the input reads as it did. -/
def buildFewestSpec : ChangeSpec := { name := "buildFewest", fn := fun _ => fun
  | [d1, d2, d3] => { results := [.lit (.bool true)], args := [d1, d2, d3] }
  | _ => none }
def buildFewestRow : OpenClaim := { program := "ytehadoecnmfeoaa", sum := "819e81b6ba84e67adafecf687b024278bee0bab3c6e109c077c33aa248afba0d", func := "ignition/ignitionlaw12.BuildFewest", spec := "buildFewest", unfollowed := true, recurses := true, plainKeys := false, apart := false }
def BuildFewestSaid : Prop := buildFewestRow.holds Try.pinned (OpenSpec.ofChange buildFewestSpec)

/-- ITS FALSE NEIGHBOUR: 'it returns false'. Refute it at one input. -/
def buildFewestWrong : ChangeSpec := { name := "buildFewest", fn := fun _ => fun
  | [d1, d2, d3] => { results := [.lit (.bool false)], args := [d1, d2, d3] }
  | _ => none }
def BuildFewestWrongFalsely : Prop := buildFewestRow.holds Try.pinned (OpenSpec.ofChange buildFewestWrong)

/-- 'ignitionlaw12.BuildDivided': WHATEVER THE INPUT: true; the input reads as it did. -/
def buildDividedSpec : ChangeSpec := { name := "buildDivided", fn := fun _ => fun
  | [d] => { results := [.lit (.bool true)], args := [d] }
  | _ => none }
def buildDividedRow : OpenClaim := { program := "ytehadoecnmfeoaa", sum := "819e81b6ba84e67adafecf687b024278bee0bab3c6e109c077c33aa248afba0d", func := "ignition/ignitionlaw12.BuildDivided", spec := "buildDivided", unfollowed := true, recurses := true, plainKeys := false, apart := false }
def BuildDividedSaid : Prop := buildDividedRow.holds Try.pinned (OpenSpec.ofChange buildDividedSpec)

/-- ITS FALSE NEIGHBOUR: 'it returns false'. Refute it at one input. -/
def buildDividedWrong : ChangeSpec := { name := "buildDivided", fn := fun _ => fun
  | [d] => { results := [.lit (.bool false)], args := [d] }
  | _ => none }
def BuildDividedWrongFalsely : Prop := buildDividedRow.holds Try.pinned (OpenSpec.ofChange buildDividedWrong)

/-- 'ignitionlaw12.BuildBoards': WHATEVER THE INPUT: true; the input reads as it did. -/
def buildBoardsSpec : ChangeSpec := { name := "buildBoards", fn := fun _ => fun
  | [d1, d2, d3] => { results := [.lit (.bool true)], args := [d1, d2, d3] }
  | _ => none }
def buildBoardsRow : OpenClaim := { program := "ytehadoecnmfeoaa", sum := "819e81b6ba84e67adafecf687b024278bee0bab3c6e109c077c33aa248afba0d", func := "ignition/ignitionlaw12.BuildBoards", spec := "buildBoards", unfollowed := true, recurses := true, plainKeys := false, apart := false }
def BuildBoardsSaid : Prop := buildBoardsRow.holds Try.pinned (OpenSpec.ofChange buildBoardsSpec)

/-- ITS FALSE NEIGHBOUR: 'it returns false'. Refute it at one input. -/
def buildBoardsWrong : ChangeSpec := { name := "buildBoards", fn := fun _ => fun
  | [d1, d2, d3] => { results := [.lit (.bool false)], args := [d1, d2, d3] }
  | _ => none }
def BuildBoardsWrongFalsely : Prop := buildBoardsRow.holds Try.pinned (OpenSpec.ofChange buildBoardsWrong)

/- THE SECOND FORM. 'bulk': how many values and letters a reading holds, each counted each time it is reached (what is shared counts as often as it is met; a slice's spare places count too). A statement '..UptoSaid' is the law's where the arguments, and the package variables that the reading takes, are together of bulk at most 1048576: NARROWER than '..Said'. Prove '..Said' where nothing that the law and all that it calls make is longer than what came in: it says more and counts as full. Else prove '..UptoSaid'. A law counts once. -/
mutual
def uptoBulk {H : Type} : DataW H → Nat
  | .lit (.string bytes) => bytes.length + 1
  | .lit _ => 1
  | .nil => 1
  | .ptr d => uptoBulk d + 1
  | .slice elems spare => uptoBulkAll elems + uptoBulkAll spare + 1
  | .agg parts => uptoBulkAll parts + 1
  | .iface _ d => uptoBulk d + 1
  | .map entries => uptoBulkEntries entries + 1
  | .held _ => 1
def uptoBulkAll {H : Type} : List (DataW H) → Nat
  | [] => 0
  | d :: r => uptoBulk d + uptoBulkAll r
def uptoBulkEntries {H : Type} : List (Lit × DataW H) → Nat
  | [] => 0
  | x :: r => uptoBulkEntry x + uptoBulkEntries r
def uptoBulkEntry {H : Type} : Lit × DataW H → Nat
  | (.string bytes, d) => bytes.length + uptoBulk d + 1
  | (_, d) => uptoBulk d + 1
 end
def uptoSmall : (H : Type) → List (DataW H) → Bool := fun _ ds => decide (uptoBulkAll ds ≤ 1048576)
def OpenSpec.upto (s : _root_.Go.ChangeSpec) : _root_.Go.OpenSpec := { _root_.Go.OpenSpec.ofChange s with cond := some uptoSmall }

/-- 'ignitionlaw12.BuildReels', WHERE WHAT IT READS IS OF BULK AT MOST 1048576: true; the input reads as it did. -/
def buildReelsUptoRow : OpenClaim := { program := "ytehadoecnmfeoaa", sum := "819e81b6ba84e67adafecf687b024278bee0bab3c6e109c077c33aa248afba0d", func := "ignition/ignitionlaw12.BuildReels", spec := "buildReels", unfollowed := true, recurses := true, plainKeys := false, apart := false, narrowed := true }
def BuildReelsUptoSaid : Prop := buildReelsUptoRow.holds Try.pinned (OpenSpec.upto buildReelsSpec)

/-- 'ignitionlaw12.BuildFewest', WHERE WHAT IT READS IS OF BULK AT MOST 1048576: true; the input reads as it did. -/
def buildFewestUptoRow : OpenClaim := { program := "ytehadoecnmfeoaa", sum := "819e81b6ba84e67adafecf687b024278bee0bab3c6e109c077c33aa248afba0d", func := "ignition/ignitionlaw12.BuildFewest", spec := "buildFewest", unfollowed := true, recurses := true, plainKeys := false, apart := false, narrowed := true }
def BuildFewestUptoSaid : Prop := buildFewestUptoRow.holds Try.pinned (OpenSpec.upto buildFewestSpec)

/-- 'ignitionlaw12.BuildDivided', WHERE WHAT IT READS IS OF BULK AT MOST 1048576: true; the input reads as it did. -/
def buildDividedUptoRow : OpenClaim := { program := "ytehadoecnmfeoaa", sum := "819e81b6ba84e67adafecf687b024278bee0bab3c6e109c077c33aa248afba0d", func := "ignition/ignitionlaw12.BuildDivided", spec := "buildDivided", unfollowed := true, recurses := true, plainKeys := false, apart := false, narrowed := true }
def BuildDividedUptoSaid : Prop := buildDividedUptoRow.holds Try.pinned (OpenSpec.upto buildDividedSpec)

/-- 'ignitionlaw12.BuildBoards', WHERE WHAT IT READS IS OF BULK AT MOST 1048576: true; the input reads as it did. -/
def buildBoardsUptoRow : OpenClaim := { program := "ytehadoecnmfeoaa", sum := "819e81b6ba84e67adafecf687b024278bee0bab3c6e109c077c33aa248afba0d", func := "ignition/ignitionlaw12.BuildBoards", spec := "buildBoards", unfollowed := true, recurses := true, plainKeys := false, apart := false, narrowed := true }
def BuildBoardsUptoSaid : Prop := buildBoardsUptoRow.holds Try.pinned (OpenSpec.upto buildBoardsSpec)

end Rows
end Go.Proofs.Ytehadoecnmfeoaa

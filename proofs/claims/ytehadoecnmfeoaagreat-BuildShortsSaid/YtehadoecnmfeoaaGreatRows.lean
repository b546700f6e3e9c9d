/-
  No cell of these rows narrows 'for every input' (looked for: loops, veiled, ifaces, maps, wideKeys, modest, calm, conditions, laid).
  DERIVED. THE GIVEN ROWS OF THIS SEAT. 11 by the template 'for every input the law returns true; each argument reads behind the call as it read before'; 0 by the template 'total and deterministic' (their statements: YtehadoecnmfeoaaGreatTotals.lean).
  GIVEN WITH THE SEED: the statements are not yours to turn. If you find one false, say at which input.
  Laid BY PROGRAM, IN A SANDBOX (cutbox-rows.mjs): the forced cells as the released guide's own fill.sh prints them over the translation b3519a5c87477b22… (all of the seat's roots in one cut). By AI agents, Wed Nov 11 2026. No macro, syntax, notation, axiom, sorry.
-/
import Derived.Test.YtehadoecnmfeoaaGreatChecked
import GoSem.Claim
import GoSem.ClaimJoined
import GoSem.ClaimMapViews
import Derived.JoinedTies
import Derived.KernelRfl
namespace Go.Proofs.YtehadoecnmfeoaaGreat
/- THE CELL 'sum', in the pinned program and in every row, IS THE sha256 OF THE DUMP (.gsa) THAT YtehadoecnmfeoaaGreatProg.lean LOADS. Nothing in Lean hashes anything: it is a label: what it is worth is what the hold of that sum in a sandbox is worth. -/
noncomputable def Tryz.pinned : Pinned := { name := "ytehadoecnmfeoaagreat", sum := "b3519a5c87477b22711a81d3987ed9ea8536297b5bb4efe8d797001ca2f50ebc", checked := Tryz.checked }
namespace Rows
def none {H : Type} : Left H := { results := [], args := [] }

/-- 'ignitionlaw12.BuildAudits': WHATEVER THE INPUT: true; the input reads as it did. -/
def buildAuditsSpec : ChangeSpec := { name := "buildAudits", fn := fun _ => fun
  | [d1, d2] => { results := [.lit (.bool true)], args := [d1, d2] }
  | _ => none }
def buildAuditsRow : OpenClaim := { program := "ytehadoecnmfeoaagreat", sum := "b3519a5c87477b22711a81d3987ed9ea8536297b5bb4efe8d797001ca2f50ebc", func := "ignition/ignitionlaw12.BuildAudits", spec := "buildAudits", unfollowed := true, recurses := true, plainKeys := false, apart := false }
def BuildAuditsSaid : Prop := buildAuditsRow.holds Tryz.pinned (OpenSpec.ofChange buildAuditsSpec)

/-- ITS FALSE NEIGHBOUR: 'it returns false'. Refute it at one input. -/
def buildAuditsWrong : ChangeSpec := { name := "buildAudits", fn := fun _ => fun
  | [d1, d2] => { results := [.lit (.bool false)], args := [d1, d2] }
  | _ => none }
def BuildAuditsWrongFalsely : Prop := buildAuditsRow.holds Tryz.pinned (OpenSpec.ofChange buildAuditsWrong)

/-- 'ignitionlaw12.BuildDivides': WHATEVER THE INPUT: true; the input reads as it did. -/
def buildDividesSpec : ChangeSpec := { name := "buildDivides", fn := fun _ => fun
  | [d] => { results := [.lit (.bool true)], args := [d] }
  | _ => none }
def buildDividesRow : OpenClaim := { program := "ytehadoecnmfeoaagreat", sum := "b3519a5c87477b22711a81d3987ed9ea8536297b5bb4efe8d797001ca2f50ebc", func := "ignition/ignitionlaw12.BuildDivides", spec := "buildDivides", unfollowed := true, recurses := true, plainKeys := false, apart := false }
def BuildDividesSaid : Prop := buildDividesRow.holds Tryz.pinned (OpenSpec.ofChange buildDividesSpec)

/-- ITS FALSE NEIGHBOUR: 'it returns false'. Refute it at one input. -/
def buildDividesWrong : ChangeSpec := { name := "buildDivides", fn := fun _ => fun
  | [d] => { results := [.lit (.bool false)], args := [d] }
  | _ => none }
def BuildDividesWrongFalsely : Prop := buildDividesRow.holds Tryz.pinned (OpenSpec.ofChange buildDividesWrong)

/-- 'ignitionlaw12.BuildLoads': WHATEVER THE INPUT: true; the input reads as it did. -/
def buildLoadsSpec : ChangeSpec := { name := "buildLoads", fn := fun _ => fun
  | [d1, d2, d3] => { results := [.lit (.bool true)], args := [d1, d2, d3] }
  | _ => none }
def buildLoadsRow : OpenClaim := { program := "ytehadoecnmfeoaagreat", sum := "b3519a5c87477b22711a81d3987ed9ea8536297b5bb4efe8d797001ca2f50ebc", func := "ignition/ignitionlaw12.BuildLoads", spec := "buildLoads", unfollowed := true, recurses := true, plainKeys := false, apart := false }
def BuildLoadsSaid : Prop := buildLoadsRow.holds Tryz.pinned (OpenSpec.ofChange buildLoadsSpec)

/-- ITS FALSE NEIGHBOUR: 'it returns false'. Refute it at one input. -/
def buildLoadsWrong : ChangeSpec := { name := "buildLoads", fn := fun _ => fun
  | [d1, d2, d3] => { results := [.lit (.bool false)], args := [d1, d2, d3] }
  | _ => none }
def BuildLoadsWrongFalsely : Prop := buildLoadsRow.holds Tryz.pinned (OpenSpec.ofChange buildLoadsWrong)

/-- 'ignitionlaw12.BuildLays': WHATEVER THE INPUT: true; the input reads as it did. -/
def buildLaysSpec : ChangeSpec := { name := "buildLays", fn := fun _ => fun
  | [d1, d2, d3] => { results := [.lit (.bool true)], args := [d1, d2, d3] }
  | _ => none }
def buildLaysRow : OpenClaim := { program := "ytehadoecnmfeoaagreat", sum := "b3519a5c87477b22711a81d3987ed9ea8536297b5bb4efe8d797001ca2f50ebc", func := "ignition/ignitionlaw12.BuildLays", spec := "buildLays", unfollowed := true, recurses := true, plainKeys := false, apart := false }
def BuildLaysSaid : Prop := buildLaysRow.holds Tryz.pinned (OpenSpec.ofChange buildLaysSpec)

/-- ITS FALSE NEIGHBOUR: 'it returns false'. Refute it at one input. -/
def buildLaysWrong : ChangeSpec := { name := "buildLays", fn := fun _ => fun
  | [d1, d2, d3] => { results := [.lit (.bool false)], args := [d1, d2, d3] }
  | _ => none }
def BuildLaysWrongFalsely : Prop := buildLaysRow.holds Tryz.pinned (OpenSpec.ofChange buildLaysWrong)

/-- 'ignitionlaw12.BuildMakes': WHATEVER THE INPUT: true; the input reads as it did. -/
def buildMakesSpec : ChangeSpec := { name := "buildMakes", fn := fun _ => fun
  | [d1, d2, d3] => { results := [.lit (.bool true)], args := [d1, d2, d3] }
  | _ => none }
def buildMakesRow : OpenClaim := { program := "ytehadoecnmfeoaagreat", sum := "b3519a5c87477b22711a81d3987ed9ea8536297b5bb4efe8d797001ca2f50ebc", func := "ignition/ignitionlaw12.BuildMakes", spec := "buildMakes", unfollowed := true, recurses := true, plainKeys := false, apart := false }
def BuildMakesSaid : Prop := buildMakesRow.holds Tryz.pinned (OpenSpec.ofChange buildMakesSpec)

/-- ITS FALSE NEIGHBOUR: 'it returns false'. Refute it at one input. -/
def buildMakesWrong : ChangeSpec := { name := "buildMakes", fn := fun _ => fun
  | [d1, d2, d3] => { results := [.lit (.bool false)], args := [d1, d2, d3] }
  | _ => none }
def BuildMakesWrongFalsely : Prop := buildMakesRow.holds Tryz.pinned (OpenSpec.ofChange buildMakesWrong)

/-- 'ignitionlaw12.BuildExact': WHATEVER THE INPUT: true; the input reads as it did. -/
def buildExactSpec : ChangeSpec := { name := "buildExact", fn := fun _ => fun
  | [d1, d2, d3] => { results := [.lit (.bool true)], args := [d1, d2, d3] }
  | _ => none }
def buildExactRow : OpenClaim := { program := "ytehadoecnmfeoaagreat", sum := "b3519a5c87477b22711a81d3987ed9ea8536297b5bb4efe8d797001ca2f50ebc", func := "ignition/ignitionlaw12.BuildExact", spec := "buildExact", unfollowed := true, recurses := true, plainKeys := false, apart := false }
def BuildExactSaid : Prop := buildExactRow.holds Tryz.pinned (OpenSpec.ofChange buildExactSpec)

/-- ITS FALSE NEIGHBOUR: 'it returns false'. Refute it at one input. -/
def buildExactWrong : ChangeSpec := { name := "buildExact", fn := fun _ => fun
  | [d1, d2, d3] => { results := [.lit (.bool false)], args := [d1, d2, d3] }
  | _ => none }
def BuildExactWrongFalsely : Prop := buildExactRow.holds Tryz.pinned (OpenSpec.ofChange buildExactWrong)

/-- 'ignitionlaw12.BuildCuts': WHATEVER THE INPUT: true; the input reads as it did. -/
def buildCutsSpec : ChangeSpec := { name := "buildCuts", fn := fun _ => fun
  | [d1, d2] => { results := [.lit (.bool true)], args := [d1, d2] }
  | _ => none }
def buildCutsRow : OpenClaim := { program := "ytehadoecnmfeoaagreat", sum := "b3519a5c87477b22711a81d3987ed9ea8536297b5bb4efe8d797001ca2f50ebc", func := "ignition/ignitionlaw12.BuildCuts", spec := "buildCuts", unfollowed := true, recurses := true, plainKeys := false, apart := false }
def BuildCutsSaid : Prop := buildCutsRow.holds Tryz.pinned (OpenSpec.ofChange buildCutsSpec)

/-- ITS FALSE NEIGHBOUR: 'it returns false'. Refute it at one input. -/
def buildCutsWrong : ChangeSpec := { name := "buildCuts", fn := fun _ => fun
  | [d1, d2] => { results := [.lit (.bool false)], args := [d1, d2] }
  | _ => none }
def BuildCutsWrongFalsely : Prop := buildCutsRow.holds Tryz.pinned (OpenSpec.ofChange buildCutsWrong)

/-- 'ignitionlaw12.BuildCut': WHATEVER THE INPUT: true; the input reads as it did. -/
def buildCutSpec : ChangeSpec := { name := "buildCut", fn := fun _ => fun
  | [d1, d2] => { results := [.lit (.bool true)], args := [d1, d2] }
  | _ => none }
def buildCutRow : OpenClaim := { program := "ytehadoecnmfeoaagreat", sum := "b3519a5c87477b22711a81d3987ed9ea8536297b5bb4efe8d797001ca2f50ebc", func := "ignition/ignitionlaw12.BuildCut", spec := "buildCut", unfollowed := true, recurses := true, plainKeys := false, apart := false }
def BuildCutSaid : Prop := buildCutRow.holds Tryz.pinned (OpenSpec.ofChange buildCutSpec)

/-- ITS FALSE NEIGHBOUR: 'it returns false'. Refute it at one input. -/
def buildCutWrong : ChangeSpec := { name := "buildCut", fn := fun _ => fun
  | [d1, d2] => { results := [.lit (.bool false)], args := [d1, d2] }
  | _ => none }
def BuildCutWrongFalsely : Prop := buildCutRow.holds Tryz.pinned (OpenSpec.ofChange buildCutWrong)

/-- 'ignitionlaw12.BuildShorts': WHATEVER THE INPUT: true; the input reads as it did. -/
def buildShortsSpec : ChangeSpec := { name := "buildShorts", fn := fun _ => fun
  | [d1, d2, d3] => { results := [.lit (.bool true)], args := [d1, d2, d3] }
  | _ => none }
def buildShortsRow : OpenClaim := { program := "ytehadoecnmfeoaagreat", sum := "b3519a5c87477b22711a81d3987ed9ea8536297b5bb4efe8d797001ca2f50ebc", func := "ignition/ignitionlaw12.BuildShorts", spec := "buildShorts", unfollowed := true, recurses := true, plainKeys := false, apart := false }
def BuildShortsSaid : Prop := buildShortsRow.holds Tryz.pinned (OpenSpec.ofChange buildShortsSpec)

/-- ITS FALSE NEIGHBOUR: 'it returns false'. Refute it at one input. -/
def buildShortsWrong : ChangeSpec := { name := "buildShorts", fn := fun _ => fun
  | [d1, d2, d3] => { results := [.lit (.bool false)], args := [d1, d2, d3] }
  | _ => none }
def BuildShortsWrongFalsely : Prop := buildShortsRow.holds Tryz.pinned (OpenSpec.ofChange buildShortsWrong)

/-- 'ignitionlaw12.BuildNets': WHATEVER THE INPUT: true; the input reads as it did. -/
def buildNetsSpec : ChangeSpec := { name := "buildNets", fn := fun _ => fun
  | [d1, d2, d3] => { results := [.lit (.bool true)], args := [d1, d2, d3] }
  | _ => none }
def buildNetsRow : OpenClaim := { program := "ytehadoecnmfeoaagreat", sum := "b3519a5c87477b22711a81d3987ed9ea8536297b5bb4efe8d797001ca2f50ebc", func := "ignition/ignitionlaw12.BuildNets", spec := "buildNets", unfollowed := true, recurses := true, plainKeys := false, apart := false }
def BuildNetsSaid : Prop := buildNetsRow.holds Tryz.pinned (OpenSpec.ofChange buildNetsSpec)

/-- ITS FALSE NEIGHBOUR: 'it returns false'. Refute it at one input. -/
def buildNetsWrong : ChangeSpec := { name := "buildNets", fn := fun _ => fun
  | [d1, d2, d3] => { results := [.lit (.bool false)], args := [d1, d2, d3] }
  | _ => none }
def BuildNetsWrongFalsely : Prop := buildNetsRow.holds Tryz.pinned (OpenSpec.ofChange buildNetsWrong)

/-- 'ignitionlaw12.BuildTested': WHATEVER THE INPUT: true; the input reads as it did. -/
def buildTestedSpec : ChangeSpec := { name := "buildTested", fn := fun _ => fun
  | [d1, d2, d3] => { results := [.lit (.bool true)], args := [d1, d2, d3] }
  | _ => none }
def buildTestedRow : OpenClaim := { program := "ytehadoecnmfeoaagreat", sum := "b3519a5c87477b22711a81d3987ed9ea8536297b5bb4efe8d797001ca2f50ebc", func := "ignition/ignitionlaw12.BuildTested", spec := "buildTested", unfollowed := true, recurses := true, plainKeys := false, apart := false }
def BuildTestedSaid : Prop := buildTestedRow.holds Tryz.pinned (OpenSpec.ofChange buildTestedSpec)

/-- ITS FALSE NEIGHBOUR: 'it returns false'. Refute it at one input. -/
def buildTestedWrong : ChangeSpec := { name := "buildTested", fn := fun _ => fun
  | [d1, d2, d3] => { results := [.lit (.bool false)], args := [d1, d2, d3] }
  | _ => none }
def BuildTestedWrongFalsely : Prop := buildTestedRow.holds Tryz.pinned (OpenSpec.ofChange buildTestedWrong)

/- THE SECOND FORM. 'bulk': how many values and letters a reading holds, each counted each time it is reached (what is shared counts as often as it is met; a slice's spare places count too). A statement '..UptoSaid' is the law's where the arguments, and the package variables that the reading takes, are together of bulk at most 1048576: NARROWER than '..Said'. Prove '..Said' where nothing that the law and all that it calls make is longer than what came in: it says more and counts as full. Else prove '..UptoSaid'. A law counts once. -/
mutual
def uptoBulk {H : Type} : DataW H → Nat
  | .lit (.string bytes) => bytes.length + 1
  | .lit _ => 1
  | .nil => 1
  | .ptr d => uptoBulk d + 1
  | .slice elems spare => uptoBulkAll elems + uptoBulkAll spare + 1
  | .agg parts => uptoBulkAll parts + 1
  | .iface _ d => uptoBulk d + 1
  | .map entries => uptoBulkEntries entries + 1
  | .held _ => 1
def uptoBulkAll {H : Type} : List (DataW H) → Nat
  | [] => 0
  | d :: r => uptoBulk d + uptoBulkAll r
def uptoBulkEntries {H : Type} : List (Lit × DataW H) → Nat
  | [] => 0
  | x :: r => uptoBulkEntry x + uptoBulkEntries r
def uptoBulkEntry {H : Type} : Lit × DataW H → Nat
  | (.string bytes, d) => bytes.length + uptoBulk d + 1
  | (_, d) => uptoBulk d + 1
 end
def uptoSmall : (H : Type) → List (DataW H) → Bool := fun _ ds => decide (uptoBulkAll ds ≤ 1048576)
def OpenSpec.upto (s : _root_.Go.ChangeSpec) : _root_.Go.OpenSpec := { _root_.Go.OpenSpec.ofChange s with cond := some uptoSmall }

/-- 'ignitionlaw12.BuildAudits', WHERE WHAT IT READS IS OF BULK AT MOST 1048576: true; the input reads as it did. -/
def buildAuditsUptoRow : OpenClaim := { program := "ytehadoecnmfeoaagreat", sum := "b3519a5c87477b22711a81d3987ed9ea8536297b5bb4efe8d797001ca2f50ebc", func := "ignition/ignitionlaw12.BuildAudits", spec := "buildAudits", unfollowed := true, recurses := true, plainKeys := false, apart := false, narrowed := true }
def BuildAuditsUptoSaid : Prop := buildAuditsUptoRow.holds Tryz.pinned (OpenSpec.upto buildAuditsSpec)

/-- 'ignitionlaw12.BuildDivides', WHERE WHAT IT READS IS OF BULK AT MOST 1048576: true; the input reads as it did. -/
def buildDividesUptoRow : OpenClaim := { program := "ytehadoecnmfeoaagreat", sum := "b3519a5c87477b22711a81d3987ed9ea8536297b5bb4efe8d797001ca2f50ebc", func := "ignition/ignitionlaw12.BuildDivides", spec := "buildDivides", unfollowed := true, recurses := true, plainKeys := false, apart := false, narrowed := true }
def BuildDividesUptoSaid : Prop := buildDividesUptoRow.holds Tryz.pinned (OpenSpec.upto buildDividesSpec)

/-- 'ignitionlaw12.BuildLoads', WHERE WHAT IT READS IS OF BULK AT MOST 1048576: true; the input reads as it did. -/
def buildLoadsUptoRow : OpenClaim := { program := "ytehadoecnmfeoaagreat", sum := "b3519a5c87477b22711a81d3987ed9ea8536297b5bb4efe8d797001ca2f50ebc", func := "ignition/ignitionlaw12.BuildLoads", spec := "buildLoads", unfollowed := true, recurses := true, plainKeys := false, apart := false, narrowed := true }
def BuildLoadsUptoSaid : Prop := buildLoadsUptoRow.holds Tryz.pinned (OpenSpec.upto buildLoadsSpec)

/-- 'ignitionlaw12.BuildLays', WHERE WHAT IT READS IS OF BULK AT MOST 1048576: true; the input reads as it did. -/
def buildLaysUptoRow : OpenClaim := { program := "ytehadoecnmfeoaagreat", sum := "b3519a5c87477b22711a81d3987ed9ea8536297b5bb4efe8d797001ca2f50ebc", func := "ignition/ignitionlaw12.BuildLays", spec := "buildLays", unfollowed := true, recurses := true, plainKeys := false, apart := false, narrowed := true }
def BuildLaysUptoSaid : Prop := buildLaysUptoRow.holds Tryz.pinned (OpenSpec.upto buildLaysSpec)

/-- 'ignitionlaw12.BuildMakes', WHERE WHAT IT READS IS OF BULK AT MOST 1048576: true; the input reads as it did. -/
def buildMakesUptoRow : OpenClaim := { program := "ytehadoecnmfeoaagreat", sum := "b3519a5c87477b22711a81d3987ed9ea8536297b5bb4efe8d797001ca2f50ebc", func := "ignition/ignitionlaw12.BuildMakes", spec := "buildMakes", unfollowed := true, recurses := true, plainKeys := false, apart := false, narrowed := true }
def BuildMakesUptoSaid : Prop := buildMakesUptoRow.holds Tryz.pinned (OpenSpec.upto buildMakesSpec)

/-- 'ignitionlaw12.BuildExact', WHERE WHAT IT READS IS OF BULK AT MOST 1048576: true; the input reads as it did. -/
def buildExactUptoRow : OpenClaim := { program := "ytehadoecnmfeoaagreat", sum := "b3519a5c87477b22711a81d3987ed9ea8536297b5bb4efe8d797001ca2f50ebc", func := "ignition/ignitionlaw12.BuildExact", spec := "buildExact", unfollowed := true, recurses := true, plainKeys := false, apart := false, narrowed := true }
def BuildExactUptoSaid : Prop := buildExactUptoRow.holds Tryz.pinned (OpenSpec.upto buildExactSpec)

/-- 'ignitionlaw12.BuildCuts', WHERE WHAT IT READS IS OF BULK AT MOST 1048576: true; the input reads as it did. -/
def buildCutsUptoRow : OpenClaim := { program := "ytehadoecnmfeoaagreat", sum := "b3519a5c87477b22711a81d3987ed9ea8536297b5bb4efe8d797001ca2f50ebc", func := "ignition/ignitionlaw12.BuildCuts", spec := "buildCuts", unfollowed := true, recurses := true, plainKeys := false, apart := false, narrowed := true }
def BuildCutsUptoSaid : Prop := buildCutsUptoRow.holds Tryz.pinned (OpenSpec.upto buildCutsSpec)

/-- 'ignitionlaw12.BuildCut', WHERE WHAT IT READS IS OF BULK AT MOST 1048576: true; the input reads as it did. -/
def buildCutUptoRow : OpenClaim := { program := "ytehadoecnmfeoaagreat", sum := "b3519a5c87477b22711a81d3987ed9ea8536297b5bb4efe8d797001ca2f50ebc", func := "ignition/ignitionlaw12.BuildCut", spec := "buildCut", unfollowed := true, recurses := true, plainKeys := false, apart := false, narrowed := true }
def BuildCutUptoSaid : Prop := buildCutUptoRow.holds Tryz.pinned (OpenSpec.upto buildCutSpec)

/-- 'ignitionlaw12.BuildShorts', WHERE WHAT IT READS IS OF BULK AT MOST 1048576: true; the input reads as it did. -/
def buildShortsUptoRow : OpenClaim := { program := "ytehadoecnmfeoaagreat", sum := "b3519a5c87477b22711a81d3987ed9ea8536297b5bb4efe8d797001ca2f50ebc", func := "ignition/ignitionlaw12.BuildShorts", spec := "buildShorts", unfollowed := true, recurses := true, plainKeys := false, apart := false, narrowed := true }
def BuildShortsUptoSaid : Prop := buildShortsUptoRow.holds Tryz.pinned (OpenSpec.upto buildShortsSpec)

/-- 'ignitionlaw12.BuildNets', WHERE WHAT IT READS IS OF BULK AT MOST 1048576: true; the input reads as it did. -/
def buildNetsUptoRow : OpenClaim := { program := "ytehadoecnmfeoaagreat", sum := "b3519a5c87477b22711a81d3987ed9ea8536297b5bb4efe8d797001ca2f50ebc", func := "ignition/ignitionlaw12.BuildNets", spec := "buildNets", unfollowed := true, recurses := true, plainKeys := false, apart := false, narrowed := true }
def BuildNetsUptoSaid : Prop := buildNetsUptoRow.holds Tryz.pinned (OpenSpec.upto buildNetsSpec)

/-- 'ignitionlaw12.BuildTested', WHERE WHAT IT READS IS OF BULK AT MOST 1048576: true; the input reads as it did. -/
def buildTestedUptoRow : OpenClaim := { program := "ytehadoecnmfeoaagreat", sum := "b3519a5c87477b22711a81d3987ed9ea8536297b5bb4efe8d797001ca2f50ebc", func := "ignition/ignitionlaw12.BuildTested", spec := "buildTested", unfollowed := true, recurses := true, plainKeys := false, apart := false, narrowed := true }
def BuildTestedUptoSaid : Prop := buildTestedUptoRow.holds Tryz.pinned (OpenSpec.upto buildTestedSpec)

end Rows
end Go.Proofs.YtehadoecnmfeoaaGreat

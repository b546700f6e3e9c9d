/-
  No cell of these rows narrows 'for every input' (looked for: loops, veiled, ifaces, maps, wideKeys, modest, calm, conditions, laid).
  DERIVED. THE GIVEN ROWS OF THIS SEAT. 12 by the template 'for every input the law returns true; each argument reads behind the call as it read before'; 0 by the template 'total and deterministic' (their statements: YtejjjijaojkohaaTotals.lean).
  GIVEN WITH THE SEED: the statements are not yours to turn. If you find one false, say at which input.
  Laid BY PROGRAM, IN A SANDBOX (cutbox-rows.mjs): the forced cells as the released guide's own fill.sh prints them over the translation 44aacfe929940e42… (all of the seat's roots in one cut). By AI agents, Wed Nov 11 2026. No macro, syntax, notation, axiom, sorry.
-/
import Derived.Test.YtejjjijaojkohaaChecked
import GoSem.Claim
import GoSem.ClaimJoined
import GoSem.ClaimMapViews
import Derived.JoinedTies
import Derived.KernelRfl
namespace Go.Proofs.Ytejjjijaojkohaa
/- THE CELL 'sum', in the pinned program and in every row, IS THE sha256 OF THE DUMP (.gsa) THAT YtejjjijaojkohaaProg.lean LOADS. Nothing in Lean hashes anything: it is a label: what it is worth is what the hold of that sum in a sandbox is worth. -/
noncomputable def Try.pinned : Pinned := { name := "ytejjjijaojkohaa", sum := "44aacfe929940e42d7e1b2d0d64b47f222a0d42d2731184ef72e9253795b7701", checked := Try.checked }
namespace Rows
def none {H : Type} : Left H := { results := [], args := [] }

/-- 'ignitionlaw07.WiresDrops': WHATEVER THE INPUT: true; the input reads as it did. -/
def wiresDropsSpec : ChangeSpec := { name := "wiresDrops", fn := fun _ => fun
  | [d1, d2, d3] => { results := [.lit (.bool true)], args := [d1, d2, d3] }
  | _ => none }
def wiresDropsRow : OpenClaim := { program := "ytejjjijaojkohaa", sum := "44aacfe929940e42d7e1b2d0d64b47f222a0d42d2731184ef72e9253795b7701", func := "ignition/ignitionlaw07.WiresDrops", spec := "wiresDrops", unfollowed := true, recurses := true, apart := false }
def WiresDropsSaid : Prop := wiresDropsRow.holds Try.pinned (OpenSpec.ofChange wiresDropsSpec)

/-- ITS FALSE NEIGHBOUR: 'it returns false'. Refute it at one input. -/
def wiresDropsWrong : ChangeSpec := { name := "wiresDrops", fn := fun _ => fun
  | [d1, d2, d3] => { results := [.lit (.bool false)], args := [d1, d2, d3] }
  | _ => none }
def WiresDropsWrongFalsely : Prop := wiresDropsRow.holds Try.pinned (OpenSpec.ofChange wiresDropsWrong)

/-- 'ignitionlaw07.WiresBlows': WHATEVER THE INPUT: true; the input reads as it did. -/
def wiresBlowsSpec : ChangeSpec := { name := "wiresBlows", fn := fun _ => fun
  | [d1, d2, d3] => { results := [.lit (.bool true)], args := [d1, d2, d3] }
  | _ => none }
def wiresBlowsRow : OpenClaim := { program := "ytejjjijaojkohaa", sum := "44aacfe929940e42d7e1b2d0d64b47f222a0d42d2731184ef72e9253795b7701", func := "ignition/ignitionlaw07.WiresBlows", spec := "wiresBlows", unfollowed := true, recurses := true, apart := false }
def WiresBlowsSaid : Prop := wiresBlowsRow.holds Try.pinned (OpenSpec.ofChange wiresBlowsSpec)

/-- ITS FALSE NEIGHBOUR: 'it returns false'. Refute it at one input. -/
def wiresBlowsWrong : ChangeSpec := { name := "wiresBlows", fn := fun _ => fun
  | [d1, d2, d3] => { results := [.lit (.bool false)], args := [d1, d2, d3] }
  | _ => none }
def WiresBlowsWrongFalsely : Prop := wiresBlowsRow.holds Try.pinned (OpenSpec.ofChange wiresBlowsWrong)

/-- 'ignitionlaw07.WiresSelective': WHATEVER THE INPUT: true; the input reads as it did. -/
def wiresSelectiveSpec : ChangeSpec := { name := "wiresSelective", fn := fun _ => fun
  | [d1, d2, d3] => { results := [.lit (.bool true)], args := [d1, d2, d3] }
  | _ => none }
def wiresSelectiveRow : OpenClaim := { program := "ytejjjijaojkohaa", sum := "44aacfe929940e42d7e1b2d0d64b47f222a0d42d2731184ef72e9253795b7701", func := "ignition/ignitionlaw07.WiresSelective", spec := "wiresSelective", unfollowed := true, recurses := true, apart := false }
def WiresSelectiveSaid : Prop := wiresSelectiveRow.holds Try.pinned (OpenSpec.ofChange wiresSelectiveSpec)

/-- ITS FALSE NEIGHBOUR: 'it returns false'. Refute it at one input. -/
def wiresSelectiveWrong : ChangeSpec := { name := "wiresSelective", fn := fun _ => fun
  | [d1, d2, d3] => { results := [.lit (.bool false)], args := [d1, d2, d3] }
  | _ => none }
def WiresSelectiveWrongFalsely : Prop := wiresSelectiveRow.holds Try.pinned (OpenSpec.ofChange wiresSelectiveWrong)

/-- 'ignitionlaw07.WiresRises': WHATEVER THE INPUT: true; the input reads as it did. -/
def wiresRisesSpec : ChangeSpec := { name := "wiresRises", fn := fun _ => fun
  | [d1, d2, d3] => { results := [.lit (.bool true)], args := [d1, d2, d3] }
  | _ => none }
def wiresRisesRow : OpenClaim := { program := "ytejjjijaojkohaa", sum := "44aacfe929940e42d7e1b2d0d64b47f222a0d42d2731184ef72e9253795b7701", func := "ignition/ignitionlaw07.WiresRises", spec := "wiresRises", unfollowed := true, recurses := true, apart := false }
def WiresRisesSaid : Prop := wiresRisesRow.holds Try.pinned (OpenSpec.ofChange wiresRisesSpec)

/-- ITS FALSE NEIGHBOUR: 'it returns false'. Refute it at one input. -/
def wiresRisesWrong : ChangeSpec := { name := "wiresRises", fn := fun _ => fun
  | [d1, d2, d3] => { results := [.lit (.bool false)], args := [d1, d2, d3] }
  | _ => none }
def WiresRisesWrongFalsely : Prop := wiresRisesRow.holds Try.pinned (OpenSpec.ofChange wiresRisesWrong)

/-- 'ignitionlaw07.WiresPeaks': WHATEVER THE INPUT: true; the input reads as it did. -/
def wiresPeaksSpec : ChangeSpec := { name := "wiresPeaks", fn := fun _ => fun
  | [d1, d2, d3] => { results := [.lit (.bool true)], args := [d1, d2, d3] }
  | _ => none }
def wiresPeaksRow : OpenClaim := { program := "ytejjjijaojkohaa", sum := "44aacfe929940e42d7e1b2d0d64b47f222a0d42d2731184ef72e9253795b7701", func := "ignition/ignitionlaw07.WiresPeaks", spec := "wiresPeaks", unfollowed := true, recurses := true, apart := false }
def WiresPeaksSaid : Prop := wiresPeaksRow.holds Try.pinned (OpenSpec.ofChange wiresPeaksSpec)

/-- ITS FALSE NEIGHBOUR: 'it returns false'. Refute it at one input. -/
def wiresPeaksWrong : ChangeSpec := { name := "wiresPeaks", fn := fun _ => fun
  | [d1, d2, d3] => { results := [.lit (.bool false)], args := [d1, d2, d3] }
  | _ => none }
def WiresPeaksWrongFalsely : Prop := wiresPeaksRow.holds Try.pinned (OpenSpec.ofChange wiresPeaksWrong)

/-- 'ignitionlaw07.WiresGuards': WHATEVER THE INPUT: true; the input reads as it did. -/
def wiresGuardsSpec : ChangeSpec := { name := "wiresGuards", fn := fun _ => fun
  | [d1, d2, d3] => { results := [.lit (.bool true)], args := [d1, d2, d3] }
  | _ => none }
def wiresGuardsRow : OpenClaim := { program := "ytejjjijaojkohaa", sum := "44aacfe929940e42d7e1b2d0d64b47f222a0d42d2731184ef72e9253795b7701", func := "ignition/ignitionlaw07.WiresGuards", spec := "wiresGuards", unfollowed := true, recurses := true, apart := false }
def WiresGuardsSaid : Prop := wiresGuardsRow.holds Try.pinned (OpenSpec.ofChange wiresGuardsSpec)

/-- ITS FALSE NEIGHBOUR: 'it returns false'. Refute it at one input. -/
def wiresGuardsWrong : ChangeSpec := { name := "wiresGuards", fn := fun _ => fun
  | [d1, d2, d3] => { results := [.lit (.bool false)], args := [d1, d2, d3] }
  | _ => none }
def WiresGuardsWrongFalsely : Prop := wiresGuardsRow.holds Try.pinned (OpenSpec.ofChange wiresGuardsWrong)

/-- 'ignitionlaw07.WiresMilder': WHATEVER THE INPUT: true; the input reads as it did. -/
def wiresMilderSpec : ChangeSpec := { name := "wiresMilder", fn := fun _ => fun
  | [d1, d2, d3] => { results := [.lit (.bool true)], args := [d1, d2, d3] }
  | _ => none }
def wiresMilderRow : OpenClaim := { program := "ytejjjijaojkohaa", sum := "44aacfe929940e42d7e1b2d0d64b47f222a0d42d2731184ef72e9253795b7701", func := "ignition/ignitionlaw07.WiresMilder", spec := "wiresMilder", unfollowed := true, recurses := true, apart := false }
def WiresMilderSaid : Prop := wiresMilderRow.holds Try.pinned (OpenSpec.ofChange wiresMilderSpec)

/-- ITS FALSE NEIGHBOUR: 'it returns false'. Refute it at one input. -/
def wiresMilderWrong : ChangeSpec := { name := "wiresMilder", fn := fun _ => fun
  | [d1, d2, d3] => { results := [.lit (.bool false)], args := [d1, d2, d3] }
  | _ => none }
def WiresMilderWrongFalsely : Prop := wiresMilderRow.holds Try.pinned (OpenSpec.ofChange wiresMilderWrong)

/-- 'ignitionlaw07.WiresChoose': WHATEVER THE INPUT: true; the input reads as it did. -/
def wiresChooseSpec : ChangeSpec := { name := "wiresChoose", fn := fun _ => fun
  | [d1, d2, d3] => { results := [.lit (.bool true)], args := [d1, d2, d3] }
  | _ => none }
def wiresChooseRow : OpenClaim := { program := "ytejjjijaojkohaa", sum := "44aacfe929940e42d7e1b2d0d64b47f222a0d42d2731184ef72e9253795b7701", func := "ignition/ignitionlaw07.WiresChoose", spec := "wiresChoose", unfollowed := true, recurses := true, apart := false }
def WiresChooseSaid : Prop := wiresChooseRow.holds Try.pinned (OpenSpec.ofChange wiresChooseSpec)

/-- ITS FALSE NEIGHBOUR: 'it returns false'. Refute it at one input. -/
def wiresChooseWrong : ChangeSpec := { name := "wiresChoose", fn := fun _ => fun
  | [d1, d2, d3] => { results := [.lit (.bool false)], args := [d1, d2, d3] }
  | _ => none }
def WiresChooseWrongFalsely : Prop := wiresChooseRow.holds Try.pinned (OpenSpec.ofChange wiresChooseWrong)

/-- 'ignitionlaw07.WiresChecks': WHATEVER THE INPUT: true; the input reads as it did. -/
def wiresChecksSpec : ChangeSpec := { name := "wiresChecks", fn := fun _ => fun
  | [d] => { results := [.lit (.bool true)], args := [d] }
  | _ => none }
def wiresChecksRow : OpenClaim := { program := "ytejjjijaojkohaa", sum := "44aacfe929940e42d7e1b2d0d64b47f222a0d42d2731184ef72e9253795b7701", func := "ignition/ignitionlaw07.WiresChecks", spec := "wiresChecks", unfollowed := true, recurses := true, apart := false }
def WiresChecksSaid : Prop := wiresChecksRow.holds Try.pinned (OpenSpec.ofChange wiresChecksSpec)

/-- ITS FALSE NEIGHBOUR: 'it returns false'. Refute it at one input. -/
def wiresChecksWrong : ChangeSpec := { name := "wiresChecks", fn := fun _ => fun
  | [d] => { results := [.lit (.bool false)], args := [d] }
  | _ => none }
def WiresChecksWrongFalsely : Prop := wiresChecksRow.holds Try.pinned (OpenSpec.ofChange wiresChecksWrong)

/-- 'ignitionlaw07.WiresPicks': WHATEVER THE INPUT: true; the input reads as it did. -/
def wiresPicksSpec : ChangeSpec := { name := "wiresPicks", fn := fun _ => fun
  | [d1, d2, d3] => { results := [.lit (.bool true)], args := [d1, d2, d3] }
  | _ => none }
def wiresPicksRow : OpenClaim := { program := "ytejjjijaojkohaa", sum := "44aacfe929940e42d7e1b2d0d64b47f222a0d42d2731184ef72e9253795b7701", func := "ignition/ignitionlaw07.WiresPicks", spec := "wiresPicks", unfollowed := true, recurses := true, apart := false }
def WiresPicksSaid : Prop := wiresPicksRow.holds Try.pinned (OpenSpec.ofChange wiresPicksSpec)

/-- ITS FALSE NEIGHBOUR: 'it returns false'. Refute it at one input. -/
def wiresPicksWrong : ChangeSpec := { name := "wiresPicks", fn := fun _ => fun
  | [d1, d2, d3] => { results := [.lit (.bool false)], args := [d1, d2, d3] }
  | _ => none }
def WiresPicksWrongFalsely : Prop := wiresPicksRow.holds Try.pinned (OpenSpec.ofChange wiresPicksWrong)

/-- 'ignitionlaw07.WiresShorts': WHATEVER THE INPUT: true; the input reads as it did. -/
def wiresShortsSpec : ChangeSpec := { name := "wiresShorts", fn := fun _ => fun
  | [d1, d2, d3] => { results := [.lit (.bool true)], args := [d1, d2, d3] }
  | _ => none }
def wiresShortsRow : OpenClaim := { program := "ytejjjijaojkohaa", sum := "44aacfe929940e42d7e1b2d0d64b47f222a0d42d2731184ef72e9253795b7701", func := "ignition/ignitionlaw07.WiresShorts", spec := "wiresShorts", unfollowed := true, recurses := true, apart := false }
def WiresShortsSaid : Prop := wiresShortsRow.holds Try.pinned (OpenSpec.ofChange wiresShortsSpec)

/-- ITS FALSE NEIGHBOUR: 'it returns false'. Refute it at one input. -/
def wiresShortsWrong : ChangeSpec := { name := "wiresShorts", fn := fun _ => fun
  | [d1, d2, d3] => { results := [.lit (.bool false)], args := [d1, d2, d3] }
  | _ => none }
def WiresShortsWrongFalsely : Prop := wiresShortsRow.holds Try.pinned (OpenSpec.ofChange wiresShortsWrong)

/-- 'ignitionlaw07.WiresProtect': WHATEVER THE INPUT: true; the input reads as it did. -/
def wiresProtectSpec : ChangeSpec := { name := "wiresProtect", fn := fun _ => fun
  | [d1, d2, d3] => { results := [.lit (.bool true)], args := [d1, d2, d3] }
  | _ => none }
def wiresProtectRow : OpenClaim := { program := "ytejjjijaojkohaa", sum := "44aacfe929940e42d7e1b2d0d64b47f222a0d42d2731184ef72e9253795b7701", func := "ignition/ignitionlaw07.WiresProtect", spec := "wiresProtect", unfollowed := true, recurses := true, apart := false }
def WiresProtectSaid : Prop := wiresProtectRow.holds Try.pinned (OpenSpec.ofChange wiresProtectSpec)

/-- ITS FALSE NEIGHBOUR: 'it returns false'. Refute it at one input. -/
def wiresProtectWrong : ChangeSpec := { name := "wiresProtect", fn := fun _ => fun
  | [d1, d2, d3] => { results := [.lit (.bool false)], args := [d1, d2, d3] }
  | _ => none }
def WiresProtectWrongFalsely : Prop := wiresProtectRow.holds Try.pinned (OpenSpec.ofChange wiresProtectWrong)

/- THE SECOND FORM. 'bulk': how many values and letters a reading holds, each counted each time it is reached (what is shared counts as often as it is met; a slice's spare places count too). A statement '..UptoSaid' is the law's where the arguments, and the package variables that the reading takes, are together of bulk at most 1048576: NARROWER than '..Said'. Prove '..Said' where nothing that the law and all that it calls make is longer than what came in: it says more and counts as full. Else prove '..UptoSaid'. A law counts once. -/
mutual
def uptoBulk {H : Type} : DataW H → Nat
  | .lit (.string bytes) => bytes.length + 1
  | .lit _ => 1
  | .nil => 1
  | .ptr d => uptoBulk d + 1
  | .slice elems spare => uptoBulkAll elems + uptoBulkAll spare + 1
  | .agg parts => uptoBulkAll parts + 1
  | .iface _ d => uptoBulk d + 1
  | .map entries => uptoBulkEntries entries + 1
  | .held _ => 1
def uptoBulkAll {H : Type} : List (DataW H) → Nat
  | [] => 0
  | d :: r => uptoBulk d + uptoBulkAll r
def uptoBulkEntries {H : Type} : List (Lit × DataW H) → Nat
  | [] => 0
  | x :: r => uptoBulkEntry x + uptoBulkEntries r
def uptoBulkEntry {H : Type} : Lit × DataW H → Nat
  | (.string bytes, d) => bytes.length + uptoBulk d + 1
  | (_, d) => uptoBulk d + 1
 end
def uptoSmall : (H : Type) → List (DataW H) → Bool := fun _ ds => decide (uptoBulkAll ds ≤ 1048576)
def OpenSpec.upto (s : _root_.Go.ChangeSpec) : _root_.Go.OpenSpec := { _root_.Go.OpenSpec.ofChange s with cond := some uptoSmall }

/-- 'ignitionlaw07.WiresDrops', WHERE WHAT IT READS IS OF BULK AT MOST 1048576: true; the input reads as it did. -/
def wiresDropsUptoRow : OpenClaim := { program := "ytejjjijaojkohaa", sum := "44aacfe929940e42d7e1b2d0d64b47f222a0d42d2731184ef72e9253795b7701", func := "ignition/ignitionlaw07.WiresDrops", spec := "wiresDrops", unfollowed := true, recurses := true, apart := false, narrowed := true }
def WiresDropsUptoSaid : Prop := wiresDropsUptoRow.holds Try.pinned (OpenSpec.upto wiresDropsSpec)

/-- 'ignitionlaw07.WiresBlows', WHERE WHAT IT READS IS OF BULK AT MOST 1048576: true; the input reads as it did. -/
def wiresBlowsUptoRow : OpenClaim := { program := "ytejjjijaojkohaa", sum := "44aacfe929940e42d7e1b2d0d64b47f222a0d42d2731184ef72e9253795b7701", func := "ignition/ignitionlaw07.WiresBlows", spec := "wiresBlows", unfollowed := true, recurses := true, apart := false, narrowed := true }
def WiresBlowsUptoSaid : Prop := wiresBlowsUptoRow.holds Try.pinned (OpenSpec.upto wiresBlowsSpec)

/-- 'ignitionlaw07.WiresSelective', WHERE WHAT IT READS IS OF BULK AT MOST 1048576: true; the input reads as it did. -/
def wiresSelectiveUptoRow : OpenClaim := { program := "ytejjjijaojkohaa", sum := "44aacfe929940e42d7e1b2d0d64b47f222a0d42d2731184ef72e9253795b7701", func := "ignition/ignitionlaw07.WiresSelective", spec := "wiresSelective", unfollowed := true, recurses := true, apart := false, narrowed := true }
def WiresSelectiveUptoSaid : Prop := wiresSelectiveUptoRow.holds Try.pinned (OpenSpec.upto wiresSelectiveSpec)

/-- 'ignitionlaw07.WiresRises', WHERE WHAT IT READS IS OF BULK AT MOST 1048576: true; the input reads as it did. -/
def wiresRisesUptoRow : OpenClaim := { program := "ytejjjijaojkohaa", sum := "44aacfe929940e42d7e1b2d0d64b47f222a0d42d2731184ef72e9253795b7701", func := "ignition/ignitionlaw07.WiresRises", spec := "wiresRises", unfollowed := true, recurses := true, apart := false, narrowed := true }
def WiresRisesUptoSaid : Prop := wiresRisesUptoRow.holds Try.pinned (OpenSpec.upto wiresRisesSpec)

/-- 'ignitionlaw07.WiresPeaks', WHERE WHAT IT READS IS OF BULK AT MOST 1048576: true; the input reads as it did. -/
def wiresPeaksUptoRow : OpenClaim := { program := "ytejjjijaojkohaa", sum := "44aacfe929940e42d7e1b2d0d64b47f222a0d42d2731184ef72e9253795b7701", func := "ignition/ignitionlaw07.WiresPeaks", spec := "wiresPeaks", unfollowed := true, recurses := true, apart := false, narrowed := true }
def WiresPeaksUptoSaid : Prop := wiresPeaksUptoRow.holds Try.pinned (OpenSpec.upto wiresPeaksSpec)

/-- 'ignitionlaw07.WiresGuards', WHERE WHAT IT READS IS OF BULK AT MOST 1048576: true; the input reads as it did. -/
def wiresGuardsUptoRow : OpenClaim := { program := "ytejjjijaojkohaa", sum := "44aacfe929940e42d7e1b2d0d64b47f222a0d42d2731184ef72e9253795b7701", func := "ignition/ignitionlaw07.WiresGuards", spec := "wiresGuards", unfollowed := true, recurses := true, apart := false, narrowed := true }
def WiresGuardsUptoSaid : Prop := wiresGuardsUptoRow.holds Try.pinned (OpenSpec.upto wiresGuardsSpec)

/-- 'ignitionlaw07.WiresMilder', WHERE WHAT IT READS IS OF BULK AT MOST 1048576: true; the input reads as it did. -/
def wiresMilderUptoRow : OpenClaim := { program := "ytejjjijaojkohaa", sum := "44aacfe929940e42d7e1b2d0d64b47f222a0d42d2731184ef72e9253795b7701", func := "ignition/ignitionlaw07.WiresMilder", spec := "wiresMilder", unfollowed := true, recurses := true, apart := false, narrowed := true }
def WiresMilderUptoSaid : Prop := wiresMilderUptoRow.holds Try.pinned (OpenSpec.upto wiresMilderSpec)

/-- 'ignitionlaw07.WiresChoose', WHERE WHAT IT READS IS OF BULK AT MOST 1048576: true; the input reads as it did. -/
def wiresChooseUptoRow : OpenClaim := { program := "ytejjjijaojkohaa", sum := "44aacfe929940e42d7e1b2d0d64b47f222a0d42d2731184ef72e9253795b7701", func := "ignition/ignitionlaw07.WiresChoose", spec := "wiresChoose", unfollowed := true, recurses := true, apart := false, narrowed := true }
def WiresChooseUptoSaid : Prop := wiresChooseUptoRow.holds Try.pinned (OpenSpec.upto wiresChooseSpec)

/-- 'ignitionlaw07.WiresChecks', WHERE WHAT IT READS IS OF BULK AT MOST 1048576: true; the input reads as it did. -/
def wiresChecksUptoRow : OpenClaim := { program := "ytejjjijaojkohaa", sum := "44aacfe929940e42d7e1b2d0d64b47f222a0d42d2731184ef72e9253795b7701", func := "ignition/ignitionlaw07.WiresChecks", spec := "wiresChecks", unfollowed := true, recurses := true, apart := false, narrowed := true }
def WiresChecksUptoSaid : Prop := wiresChecksUptoRow.holds Try.pinned (OpenSpec.upto wiresChecksSpec)

/-- 'ignitionlaw07.WiresPicks', WHERE WHAT IT READS IS OF BULK AT MOST 1048576: true; the input reads as it did. -/
def wiresPicksUptoRow : OpenClaim := { program := "ytejjjijaojkohaa", sum := "44aacfe929940e42d7e1b2d0d64b47f222a0d42d2731184ef72e9253795b7701", func := "ignition/ignitionlaw07.WiresPicks", spec := "wiresPicks", unfollowed := true, recurses := true, apart := false, narrowed := true }
def WiresPicksUptoSaid : Prop := wiresPicksUptoRow.holds Try.pinned (OpenSpec.upto wiresPicksSpec)

/-- 'ignitionlaw07.WiresShorts', WHERE WHAT IT READS IS OF BULK AT MOST 1048576: true; the input reads as it did. -/
def wiresShortsUptoRow : OpenClaim := { program := "ytejjjijaojkohaa", sum := "44aacfe929940e42d7e1b2d0d64b47f222a0d42d2731184ef72e9253795b7701", func := "ignition/ignitionlaw07.WiresShorts", spec := "wiresShorts", unfollowed := true, recurses := true, apart := false, narrowed := true }
def WiresShortsUptoSaid : Prop := wiresShortsUptoRow.holds Try.pinned (OpenSpec.upto wiresShortsSpec)

/-- 'ignitionlaw07.WiresProtect', WHERE WHAT IT READS IS OF BULK AT MOST 1048576: true; the input reads as it did. -/
def wiresProtectUptoRow : OpenClaim := { program := "ytejjjijaojkohaa", sum := "44aacfe929940e42d7e1b2d0d64b47f222a0d42d2731184ef72e9253795b7701", func := "ignition/ignitionlaw07.WiresProtect", spec := "wiresProtect", unfollowed := true, recurses := true, apart := false, narrowed := true }
def WiresProtectUptoSaid : Prop := wiresProtectUptoRow.holds Try.pinned (OpenSpec.upto wiresProtectSpec)

end Rows
end Go.Proofs.Ytejjjijaojkohaa

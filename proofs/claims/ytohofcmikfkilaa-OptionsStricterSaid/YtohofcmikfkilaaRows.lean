/-
  No cell of these rows narrows 'for every input' (looked for: loops, veiled, ifaces, maps, wideKeys, modest, calm, conditions, laid).
  DERIVED. THE GIVEN ROWS OF THIS SEAT. 16 by the template 'for every input the law returns true; each argument reads behind the call as it read before'; 0 by the template 'total and deterministic' (their statements: YtohofcmikfkilaaTotals.lean).
  GIVEN WITH THE SEED: the statements are not yours to turn. If you find one false, say at which input.
  Laid BY PROGRAM, IN A SANDBOX (cutbox-rows.mjs): the forced cells as the released guide's own fill.sh prints them over the translation f418aabd22628afd… (all of the seat's roots in one cut). By AI agents, Wed Nov 11 2026. No macro, syntax, notation, axiom, sorry.
-/
import Derived.Test.YtohofcmikfkilaaChecked
import GoSem.Claim
import GoSem.ClaimJoined
import GoSem.ClaimMapViews
import Derived.JoinedTies
import Derived.KernelRfl
namespace Go.Proofs.Ytohofcmikfkilaa
/- THE CELL 'sum', in the pinned program and in every row, IS THE sha256 OF THE DUMP (.gsa) THAT YtohofcmikfkilaaProg.lean LOADS. Nothing in Lean hashes anything: it is a label: what it is worth is what the hold of that sum in a sandbox is worth. -/
noncomputable def Try.pinned : Pinned := { name := "ytohofcmikfkilaa", sum := "f418aabd22628afd3526fcfa85626d74f0556fa176626f0d94178d55b1df92a2", checked := Try.checked }
namespace Rows
def none {H : Type} : Left H := { results := [], args := [] }

/-- 'ignitionlaw01.OptionsMost': WHATEVER THE INPUT: true; the input reads as it did. -/
def optionsMostSpec : ChangeSpec := { name := "optionsMost", fn := fun _ => fun
  | [d1, d2, d3] => { results := [.lit (.bool true)], args := [d1, d2, d3] }
  | _ => none }
def optionsMostRow : OpenClaim := { program := "ytohofcmikfkilaa", sum := "f418aabd22628afd3526fcfa85626d74f0556fa176626f0d94178d55b1df92a2", func := "ignition/ignitionlaw01.OptionsMost", spec := "optionsMost", unfollowed := true, recurses := true, plainKeys := false, apart := false }
def OptionsMostSaid : Prop := optionsMostRow.holds Try.pinned (OpenSpec.ofChange optionsMostSpec)

/-- ITS FALSE NEIGHBOUR: 'it returns false'. Refute it at one input. -/
def optionsMostWrong : ChangeSpec := { name := "optionsMost", fn := fun _ => fun
  | [d1, d2, d3] => { results := [.lit (.bool false)], args := [d1, d2, d3] }
  | _ => none }
def OptionsMostWrongFalsely : Prop := optionsMostRow.holds Try.pinned (OpenSpec.ofChange optionsMostWrong)

/-- 'ignitionlaw01.OptionsChecks': WHATEVER THE INPUT: true; the input reads as it did. -/
def optionsChecksSpec : ChangeSpec := { name := "optionsChecks", fn := fun _ => fun
  | [d1, d2] => { results := [.lit (.bool true)], args := [d1, d2] }
  | _ => none }
def optionsChecksRow : OpenClaim := { program := "ytohofcmikfkilaa", sum := "f418aabd22628afd3526fcfa85626d74f0556fa176626f0d94178d55b1df92a2", func := "ignition/ignitionlaw01.OptionsChecks", spec := "optionsChecks", unfollowed := true, recurses := true, plainKeys := false, apart := false }
def OptionsChecksSaid : Prop := optionsChecksRow.holds Try.pinned (OpenSpec.ofChange optionsChecksSpec)

/-- ITS FALSE NEIGHBOUR: 'it returns false'. Refute it at one input. -/
def optionsChecksWrong : ChangeSpec := { name := "optionsChecks", fn := fun _ => fun
  | [d1, d2] => { results := [.lit (.bool false)], args := [d1, d2] }
  | _ => none }
def OptionsChecksWrongFalsely : Prop := optionsChecksRow.holds Try.pinned (OpenSpec.ofChange optionsChecksWrong)

/-- 'ignitionlaw01.OptionsCores': WHATEVER THE INPUT: true; the input reads as it did. -/
def optionsCoresSpec : ChangeSpec := { name := "optionsCores", fn := fun _ => fun
  | [d1, d2] => { results := [.lit (.bool true)], args := [d1, d2] }
  | _ => none }
def optionsCoresRow : OpenClaim := { program := "ytohofcmikfkilaa", sum := "f418aabd22628afd3526fcfa85626d74f0556fa176626f0d94178d55b1df92a2", func := "ignition/ignitionlaw01.OptionsCores", spec := "optionsCores", unfollowed := true, recurses := true, plainKeys := false, apart := false }
def OptionsCoresSaid : Prop := optionsCoresRow.holds Try.pinned (OpenSpec.ofChange optionsCoresSpec)

/-- ITS FALSE NEIGHBOUR: 'it returns false'. Refute it at one input. -/
def optionsCoresWrong : ChangeSpec := { name := "optionsCores", fn := fun _ => fun
  | [d1, d2] => { results := [.lit (.bool false)], args := [d1, d2] }
  | _ => none }
def OptionsCoresWrongFalsely : Prop := optionsCoresRow.holds Try.pinned (OpenSpec.ofChange optionsCoresWrong)

/-- 'ignitionlaw01.OptionsWhy': WHATEVER THE INPUT: true; the input reads as it did. -/
def optionsWhySpec : ChangeSpec := { name := "optionsWhy", fn := fun _ => fun
  | [d1, d2] => { results := [.lit (.bool true)], args := [d1, d2] }
  | _ => none }
def optionsWhyRow : OpenClaim := { program := "ytohofcmikfkilaa", sum := "f418aabd22628afd3526fcfa85626d74f0556fa176626f0d94178d55b1df92a2", func := "ignition/ignitionlaw01.OptionsWhy", spec := "optionsWhy", unfollowed := true, recurses := true, plainKeys := false, apart := false }
def OptionsWhySaid : Prop := optionsWhyRow.holds Try.pinned (OpenSpec.ofChange optionsWhySpec)

/-- ITS FALSE NEIGHBOUR: 'it returns false'. Refute it at one input. -/
def optionsWhyWrong : ChangeSpec := { name := "optionsWhy", fn := fun _ => fun
  | [d1, d2] => { results := [.lit (.bool false)], args := [d1, d2] }
  | _ => none }
def OptionsWhyWrongFalsely : Prop := optionsWhyRow.holds Try.pinned (OpenSpec.ofChange optionsWhyWrong)

/-- 'ignitionlaw01.OptionsFollows': WHATEVER THE INPUT: true; the input reads as it did. -/
def optionsFollowsSpec : ChangeSpec := { name := "optionsFollows", fn := fun _ => fun
  | [d1, d2, d3] => { results := [.lit (.bool true)], args := [d1, d2, d3] }
  | _ => none }
def optionsFollowsRow : OpenClaim := { program := "ytohofcmikfkilaa", sum := "f418aabd22628afd3526fcfa85626d74f0556fa176626f0d94178d55b1df92a2", func := "ignition/ignitionlaw01.OptionsFollows", spec := "optionsFollows", unfollowed := true, recurses := true, plainKeys := false, apart := false }
def OptionsFollowsSaid : Prop := optionsFollowsRow.holds Try.pinned (OpenSpec.ofChange optionsFollowsSpec)

/-- ITS FALSE NEIGHBOUR: 'it returns false'. Refute it at one input. -/
def optionsFollowsWrong : ChangeSpec := { name := "optionsFollows", fn := fun _ => fun
  | [d1, d2, d3] => { results := [.lit (.bool false)], args := [d1, d2, d3] }
  | _ => none }
def OptionsFollowsWrongFalsely : Prop := optionsFollowsRow.holds Try.pinned (OpenSpec.ofChange optionsFollowsWrong)

/-- 'ignitionlaw01.OptionsDiagrams': WHATEVER THE INPUT: true; the input reads as it did. -/
def optionsDiagramsSpec : ChangeSpec := { name := "optionsDiagrams", fn := fun _ => fun
  | [d1, d2] => { results := [.lit (.bool true)], args := [d1, d2] }
  | _ => none }
def optionsDiagramsRow : OpenClaim := { program := "ytohofcmikfkilaa", sum := "f418aabd22628afd3526fcfa85626d74f0556fa176626f0d94178d55b1df92a2", func := "ignition/ignitionlaw01.OptionsDiagrams", spec := "optionsDiagrams", unfollowed := true, recurses := true, plainKeys := false, apart := false }
def OptionsDiagramsSaid : Prop := optionsDiagramsRow.holds Try.pinned (OpenSpec.ofChange optionsDiagramsSpec)

/-- ITS FALSE NEIGHBOUR: 'it returns false'. Refute it at one input. -/
def optionsDiagramsWrong : ChangeSpec := { name := "optionsDiagrams", fn := fun _ => fun
  | [d1, d2] => { results := [.lit (.bool false)], args := [d1, d2] }
  | _ => none }
def OptionsDiagramsWrongFalsely : Prop := optionsDiagramsRow.holds Try.pinned (OpenSpec.ofChange optionsDiagramsWrong)

/-- 'ignitionlaw01.OptionsLists': WHATEVER THE INPUT: true; the input reads as it did. -/
def optionsListsSpec : ChangeSpec := { name := "optionsLists", fn := fun _ => fun
  | [d1, d2, d3] => { results := [.lit (.bool true)], args := [d1, d2, d3] }
  | _ => none }
def optionsListsRow : OpenClaim := { program := "ytohofcmikfkilaa", sum := "f418aabd22628afd3526fcfa85626d74f0556fa176626f0d94178d55b1df92a2", func := "ignition/ignitionlaw01.OptionsLists", spec := "optionsLists", unfollowed := true, recurses := true, plainKeys := false, apart := false }
def OptionsListsSaid : Prop := optionsListsRow.holds Try.pinned (OpenSpec.ofChange optionsListsSpec)

/-- ITS FALSE NEIGHBOUR: 'it returns false'. Refute it at one input. -/
def optionsListsWrong : ChangeSpec := { name := "optionsLists", fn := fun _ => fun
  | [d1, d2, d3] => { results := [.lit (.bool false)], args := [d1, d2, d3] }
  | _ => none }
def OptionsListsWrongFalsely : Prop := optionsListsRow.holds Try.pinned (OpenSpec.ofChange optionsListsWrong)

/-- 'ignitionlaw01.OptionsMeets': WHATEVER THE INPUT: true; the input reads as it did. -/
def optionsMeetsSpec : ChangeSpec := { name := "optionsMeets", fn := fun _ => fun
  | [d1, d2, d3] => { results := [.lit (.bool true)], args := [d1, d2, d3] }
  | _ => none }
def optionsMeetsRow : OpenClaim := { program := "ytohofcmikfkilaa", sum := "f418aabd22628afd3526fcfa85626d74f0556fa176626f0d94178d55b1df92a2", func := "ignition/ignitionlaw01.OptionsMeets", spec := "optionsMeets", unfollowed := true, recurses := true, plainKeys := false, apart := false }
def OptionsMeetsSaid : Prop := optionsMeetsRow.holds Try.pinned (OpenSpec.ofChange optionsMeetsSpec)

/-- ITS FALSE NEIGHBOUR: 'it returns false'. Refute it at one input. -/
def optionsMeetsWrong : ChangeSpec := { name := "optionsMeets", fn := fun _ => fun
  | [d1, d2, d3] => { results := [.lit (.bool false)], args := [d1, d2, d3] }
  | _ => none }
def OptionsMeetsWrongFalsely : Prop := optionsMeetsRow.holds Try.pinned (OpenSpec.ofChange optionsMeetsWrong)

/-- 'ignitionlaw01.OptionsHolds': WHATEVER THE INPUT: true; the input reads as it did. -/
def optionsHoldsSpec : ChangeSpec := { name := "optionsHolds", fn := fun _ => fun
  | [d1, d2, d3] => { results := [.lit (.bool true)], args := [d1, d2, d3] }
  | _ => none }
def optionsHoldsRow : OpenClaim := { program := "ytohofcmikfkilaa", sum := "f418aabd22628afd3526fcfa85626d74f0556fa176626f0d94178d55b1df92a2", func := "ignition/ignitionlaw01.OptionsHolds", spec := "optionsHolds", unfollowed := true, recurses := true, plainKeys := false, apart := false }
def OptionsHoldsSaid : Prop := optionsHoldsRow.holds Try.pinned (OpenSpec.ofChange optionsHoldsSpec)

/-- ITS FALSE NEIGHBOUR: 'it returns false'. Refute it at one input. -/
def optionsHoldsWrong : ChangeSpec := { name := "optionsHolds", fn := fun _ => fun
  | [d1, d2, d3] => { results := [.lit (.bool false)], args := [d1, d2, d3] }
  | _ => none }
def OptionsHoldsWrongFalsely : Prop := optionsHoldsRow.holds Try.pinned (OpenSpec.ofChange optionsHoldsWrong)

/-- 'ignitionlaw01.OptionsGreatest': WHATEVER THE INPUT: true; the input reads as it did. -/
def optionsGreatestSpec : ChangeSpec := { name := "optionsGreatest", fn := fun _ => fun
  | [d1, d2, d3] => { results := [.lit (.bool true)], args := [d1, d2, d3] }
  | _ => none }
def optionsGreatestRow : OpenClaim := { program := "ytohofcmikfkilaa", sum := "f418aabd22628afd3526fcfa85626d74f0556fa176626f0d94178d55b1df92a2", func := "ignition/ignitionlaw01.OptionsGreatest", spec := "optionsGreatest", unfollowed := true, recurses := true, plainKeys := false, apart := false }
def OptionsGreatestSaid : Prop := optionsGreatestRow.holds Try.pinned (OpenSpec.ofChange optionsGreatestSpec)

/-- ITS FALSE NEIGHBOUR: 'it returns false'. Refute it at one input. -/
def optionsGreatestWrong : ChangeSpec := { name := "optionsGreatest", fn := fun _ => fun
  | [d1, d2, d3] => { results := [.lit (.bool false)], args := [d1, d2, d3] }
  | _ => none }
def OptionsGreatestWrongFalsely : Prop := optionsGreatestRow.holds Try.pinned (OpenSpec.ofChange optionsGreatestWrong)

/-- 'ignitionlaw01.OptionsStricter': WHATEVER THE INPUT: true; the input reads as it did. -/
def optionsStricterSpec : ChangeSpec := { name := "optionsStricter", fn := fun _ => fun
  | [d1, d2, d3] => { results := [.lit (.bool true)], args := [d1, d2, d3] }
  | _ => none }
def optionsStricterRow : OpenClaim := { program := "ytohofcmikfkilaa", sum := "f418aabd22628afd3526fcfa85626d74f0556fa176626f0d94178d55b1df92a2", func := "ignition/ignitionlaw01.OptionsStricter", spec := "optionsStricter", unfollowed := true, recurses := true, plainKeys := false, apart := false }
def OptionsStricterSaid : Prop := optionsStricterRow.holds Try.pinned (OpenSpec.ofChange optionsStricterSpec)

/-- ITS FALSE NEIGHBOUR: 'it returns false'. Refute it at one input. -/
def optionsStricterWrong : ChangeSpec := { name := "optionsStricter", fn := fun _ => fun
  | [d1, d2, d3] => { results := [.lit (.bool false)], args := [d1, d2, d3] }
  | _ => none }
def OptionsStricterWrongFalsely : Prop := optionsStricterRow.holds Try.pinned (OpenSpec.ofChange optionsStricterWrong)

/-- 'ignitionlaw01.OptionsPasses': WHATEVER THE INPUT: true; the input reads as it did. -/
def optionsPassesSpec : ChangeSpec := { name := "optionsPasses", fn := fun _ => fun
  | [d1, d2, d3] => { results := [.lit (.bool true)], args := [d1, d2, d3] }
  | _ => none }
def optionsPassesRow : OpenClaim := { program := "ytohofcmikfkilaa", sum := "f418aabd22628afd3526fcfa85626d74f0556fa176626f0d94178d55b1df92a2", func := "ignition/ignitionlaw01.OptionsPasses", spec := "optionsPasses", unfollowed := true, recurses := true, plainKeys := false, apart := false }
def OptionsPassesSaid : Prop := optionsPassesRow.holds Try.pinned (OpenSpec.ofChange optionsPassesSpec)

/-- ITS FALSE NEIGHBOUR: 'it returns false'. Refute it at one input. -/
def optionsPassesWrong : ChangeSpec := { name := "optionsPasses", fn := fun _ => fun
  | [d1, d2, d3] => { results := [.lit (.bool false)], args := [d1, d2, d3] }
  | _ => none }
def OptionsPassesWrongFalsely : Prop := optionsPassesRow.holds Try.pinned (OpenSpec.ofChange optionsPassesWrong)

/-- 'ignitionlaw01.OptionsMissing': WHATEVER THE INPUT: true; the input reads as it did. -/
def optionsMissingSpec : ChangeSpec := { name := "optionsMissing", fn := fun _ => fun
  | [d] => { results := [.lit (.bool true)], args := [d] }
  | _ => none }
def optionsMissingRow : OpenClaim := { program := "ytohofcmikfkilaa", sum := "f418aabd22628afd3526fcfa85626d74f0556fa176626f0d94178d55b1df92a2", func := "ignition/ignitionlaw01.OptionsMissing", spec := "optionsMissing", unfollowed := true, recurses := true, plainKeys := false, apart := false }
def OptionsMissingSaid : Prop := optionsMissingRow.holds Try.pinned (OpenSpec.ofChange optionsMissingSpec)

/-- ITS FALSE NEIGHBOUR: 'it returns false'. Refute it at one input. -/
def optionsMissingWrong : ChangeSpec := { name := "optionsMissing", fn := fun _ => fun
  | [d] => { results := [.lit (.bool false)], args := [d] }
  | _ => none }
def OptionsMissingWrongFalsely : Prop := optionsMissingRow.holds Try.pinned (OpenSpec.ofChange optionsMissingWrong)

/-- 'ignitionlaw01.OptionsAsked': WHATEVER THE INPUT: true; the input reads as it did. -/
def optionsAskedSpec : ChangeSpec := { name := "optionsAsked", fn := fun _ => fun
  | [d1, d2, d3] => { results := [.lit (.bool true)], args := [d1, d2, d3] }
  | _ => none }
def optionsAskedRow : OpenClaim := { program := "ytohofcmikfkilaa", sum := "f418aabd22628afd3526fcfa85626d74f0556fa176626f0d94178d55b1df92a2", func := "ignition/ignitionlaw01.OptionsAsked", spec := "optionsAsked", unfollowed := true, recurses := true, plainKeys := false, apart := false }
def OptionsAskedSaid : Prop := optionsAskedRow.holds Try.pinned (OpenSpec.ofChange optionsAskedSpec)

/-- ITS FALSE NEIGHBOUR: 'it returns false'. Refute it at one input. -/
def optionsAskedWrong : ChangeSpec := { name := "optionsAsked", fn := fun _ => fun
  | [d1, d2, d3] => { results := [.lit (.bool false)], args := [d1, d2, d3] }
  | _ => none }
def OptionsAskedWrongFalsely : Prop := optionsAskedRow.holds Try.pinned (OpenSpec.ofChange optionsAskedWrong)

/-- 'ignitionlaw01.OptionsCovers': WHATEVER THE INPUT: true; the input reads as it did. -/
def optionsCoversSpec : ChangeSpec := { name := "optionsCovers", fn := fun _ => fun
  | [d] => { results := [.lit (.bool true)], args := [d] }
  | _ => none }
def optionsCoversRow : OpenClaim := { program := "ytohofcmikfkilaa", sum := "f418aabd22628afd3526fcfa85626d74f0556fa176626f0d94178d55b1df92a2", func := "ignition/ignitionlaw01.OptionsCovers", spec := "optionsCovers", unfollowed := true, recurses := true, plainKeys := false, apart := false }
def OptionsCoversSaid : Prop := optionsCoversRow.holds Try.pinned (OpenSpec.ofChange optionsCoversSpec)

/-- ITS FALSE NEIGHBOUR: 'it returns false'. Refute it at one input. -/
def optionsCoversWrong : ChangeSpec := { name := "optionsCovers", fn := fun _ => fun
  | [d] => { results := [.lit (.bool false)], args := [d] }
  | _ => none }
def OptionsCoversWrongFalsely : Prop := optionsCoversRow.holds Try.pinned (OpenSpec.ofChange optionsCoversWrong)

/-- 'ignitionlaw01.OptionsExact': WHATEVER THE INPUT: true; the input reads as it did. -/
def optionsExactSpec : ChangeSpec := { name := "optionsExact", fn := fun _ => fun
  | [d1, d2, d3] => { results := [.lit (.bool true)], args := [d1, d2, d3] }
  | _ => none }
def optionsExactRow : OpenClaim := { program := "ytohofcmikfkilaa", sum := "f418aabd22628afd3526fcfa85626d74f0556fa176626f0d94178d55b1df92a2", func := "ignition/ignitionlaw01.OptionsExact", spec := "optionsExact", unfollowed := true, recurses := true, plainKeys := false, apart := false }
def OptionsExactSaid : Prop := optionsExactRow.holds Try.pinned (OpenSpec.ofChange optionsExactSpec)

/-- ITS FALSE NEIGHBOUR: 'it returns false'. Refute it at one input. -/
def optionsExactWrong : ChangeSpec := { name := "optionsExact", fn := fun _ => fun
  | [d1, d2, d3] => { results := [.lit (.bool false)], args := [d1, d2, d3] }
  | _ => none }
def OptionsExactWrongFalsely : Prop := optionsExactRow.holds Try.pinned (OpenSpec.ofChange optionsExactWrong)

/- THE SECOND FORM. 'bulk': how many values and letters a reading holds, each counted each time it is reached (what is shared counts as often as it is met; a slice's spare places count too). A statement '..UptoSaid' is the law's where the arguments, and the package variables that the reading takes, are together of bulk at most 1048576: NARROWER than '..Said'. Prove '..Said' where nothing that the law and all that it calls make is longer than what came in: it says more and counts as full. Else prove '..UptoSaid'. A law counts once. -/
mutual
def uptoBulk {H : Type} : DataW H → Nat
  | .lit (.string bytes) => bytes.length + 1
  | .lit _ => 1
  | .nil => 1
  | .ptr d => uptoBulk d + 1
  | .slice elems spare => uptoBulkAll elems + uptoBulkAll spare + 1
  | .agg parts => uptoBulkAll parts + 1
  | .iface _ d => uptoBulk d + 1
  | .map entries => uptoBulkEntries entries + 1
  | .held _ => 1
def uptoBulkAll {H : Type} : List (DataW H) → Nat
  | [] => 0
  | d :: r => uptoBulk d + uptoBulkAll r
def uptoBulkEntries {H : Type} : List (Lit × DataW H) → Nat
  | [] => 0
  | x :: r => uptoBulkEntry x + uptoBulkEntries r
def uptoBulkEntry {H : Type} : Lit × DataW H → Nat
  | (.string bytes, d) => bytes.length + uptoBulk d + 1
  | (_, d) => uptoBulk d + 1
 end
def uptoSmall : (H : Type) → List (DataW H) → Bool := fun _ ds => decide (uptoBulkAll ds ≤ 1048576)
def OpenSpec.upto (s : _root_.Go.ChangeSpec) : _root_.Go.OpenSpec := { _root_.Go.OpenSpec.ofChange s with cond := some uptoSmall }

/-- 'ignitionlaw01.OptionsMost', WHERE WHAT IT READS IS OF BULK AT MOST 1048576: true; the input reads as it did. -/
def optionsMostUptoRow : OpenClaim := { program := "ytohofcmikfkilaa", sum := "f418aabd22628afd3526fcfa85626d74f0556fa176626f0d94178d55b1df92a2", func := "ignition/ignitionlaw01.OptionsMost", spec := "optionsMost", unfollowed := true, recurses := true, plainKeys := false, apart := false, narrowed := true }
def OptionsMostUptoSaid : Prop := optionsMostUptoRow.holds Try.pinned (OpenSpec.upto optionsMostSpec)

/-- 'ignitionlaw01.OptionsChecks', WHERE WHAT IT READS IS OF BULK AT MOST 1048576: true; the input reads as it did. -/
def optionsChecksUptoRow : OpenClaim := { program := "ytohofcmikfkilaa", sum := "f418aabd22628afd3526fcfa85626d74f0556fa176626f0d94178d55b1df92a2", func := "ignition/ignitionlaw01.OptionsChecks", spec := "optionsChecks", unfollowed := true, recurses := true, plainKeys := false, apart := false, narrowed := true }
def OptionsChecksUptoSaid : Prop := optionsChecksUptoRow.holds Try.pinned (OpenSpec.upto optionsChecksSpec)

/-- 'ignitionlaw01.OptionsCores', WHERE WHAT IT READS IS OF BULK AT MOST 1048576: true; the input reads as it did. -/
def optionsCoresUptoRow : OpenClaim := { program := "ytohofcmikfkilaa", sum := "f418aabd22628afd3526fcfa85626d74f0556fa176626f0d94178d55b1df92a2", func := "ignition/ignitionlaw01.OptionsCores", spec := "optionsCores", unfollowed := true, recurses := true, plainKeys := false, apart := false, narrowed := true }
def OptionsCoresUptoSaid : Prop := optionsCoresUptoRow.holds Try.pinned (OpenSpec.upto optionsCoresSpec)

/-- 'ignitionlaw01.OptionsWhy', WHERE WHAT IT READS IS OF BULK AT MOST 1048576: true; the input reads as it did. -/
def optionsWhyUptoRow : OpenClaim := { program := "ytohofcmikfkilaa", sum := "f418aabd22628afd3526fcfa85626d74f0556fa176626f0d94178d55b1df92a2", func := "ignition/ignitionlaw01.OptionsWhy", spec := "optionsWhy", unfollowed := true, recurses := true, plainKeys := false, apart := false, narrowed := true }
def OptionsWhyUptoSaid : Prop := optionsWhyUptoRow.holds Try.pinned (OpenSpec.upto optionsWhySpec)

/-- 'ignitionlaw01.OptionsFollows', WHERE WHAT IT READS IS OF BULK AT MOST 1048576: true; the input reads as it did. -/
def optionsFollowsUptoRow : OpenClaim := { program := "ytohofcmikfkilaa", sum := "f418aabd22628afd3526fcfa85626d74f0556fa176626f0d94178d55b1df92a2", func := "ignition/ignitionlaw01.OptionsFollows", spec := "optionsFollows", unfollowed := true, recurses := true, plainKeys := false, apart := false, narrowed := true }
def OptionsFollowsUptoSaid : Prop := optionsFollowsUptoRow.holds Try.pinned (OpenSpec.upto optionsFollowsSpec)

/-- 'ignitionlaw01.OptionsDiagrams', WHERE WHAT IT READS IS OF BULK AT MOST 1048576: true; the input reads as it did. -/
def optionsDiagramsUptoRow : OpenClaim := { program := "ytohofcmikfkilaa", sum := "f418aabd22628afd3526fcfa85626d74f0556fa176626f0d94178d55b1df92a2", func := "ignition/ignitionlaw01.OptionsDiagrams", spec := "optionsDiagrams", unfollowed := true, recurses := true, plainKeys := false, apart := false, narrowed := true }
def OptionsDiagramsUptoSaid : Prop := optionsDiagramsUptoRow.holds Try.pinned (OpenSpec.upto optionsDiagramsSpec)

/-- 'ignitionlaw01.OptionsLists', WHERE WHAT IT READS IS OF BULK AT MOST 1048576: true; the input reads as it did. -/
def optionsListsUptoRow : OpenClaim := { program := "ytohofcmikfkilaa", sum := "f418aabd22628afd3526fcfa85626d74f0556fa176626f0d94178d55b1df92a2", func := "ignition/ignitionlaw01.OptionsLists", spec := "optionsLists", unfollowed := true, recurses := true, plainKeys := false, apart := false, narrowed := true }
def OptionsListsUptoSaid : Prop := optionsListsUptoRow.holds Try.pinned (OpenSpec.upto optionsListsSpec)

/-- 'ignitionlaw01.OptionsMeets', WHERE WHAT IT READS IS OF BULK AT MOST 1048576: true; the input reads as it did. -/
def optionsMeetsUptoRow : OpenClaim := { program := "ytohofcmikfkilaa", sum := "f418aabd22628afd3526fcfa85626d74f0556fa176626f0d94178d55b1df92a2", func := "ignition/ignitionlaw01.OptionsMeets", spec := "optionsMeets", unfollowed := true, recurses := true, plainKeys := false, apart := false, narrowed := true }
def OptionsMeetsUptoSaid : Prop := optionsMeetsUptoRow.holds Try.pinned (OpenSpec.upto optionsMeetsSpec)

/-- 'ignitionlaw01.OptionsHolds', WHERE WHAT IT READS IS OF BULK AT MOST 1048576: true; the input reads as it did. -/
def optionsHoldsUptoRow : OpenClaim := { program := "ytohofcmikfkilaa", sum := "f418aabd22628afd3526fcfa85626d74f0556fa176626f0d94178d55b1df92a2", func := "ignition/ignitionlaw01.OptionsHolds", spec := "optionsHolds", unfollowed := true, recurses := true, plainKeys := false, apart := false, narrowed := true }
def OptionsHoldsUptoSaid : Prop := optionsHoldsUptoRow.holds Try.pinned (OpenSpec.upto optionsHoldsSpec)

/-- 'ignitionlaw01.OptionsGreatest', WHERE WHAT IT READS IS OF BULK AT MOST 1048576: true; the input reads as it did. -/
def optionsGreatestUptoRow : OpenClaim := { program := "ytohofcmikfkilaa", sum := "f418aabd22628afd3526fcfa85626d74f0556fa176626f0d94178d55b1df92a2", func := "ignition/ignitionlaw01.OptionsGreatest", spec := "optionsGreatest", unfollowed := true, recurses := true, plainKeys := false, apart := false, narrowed := true }
def OptionsGreatestUptoSaid : Prop := optionsGreatestUptoRow.holds Try.pinned (OpenSpec.upto optionsGreatestSpec)

/-- 'ignitionlaw01.OptionsStricter', WHERE WHAT IT READS IS OF BULK AT MOST 1048576: true; the input reads as it did. -/
def optionsStricterUptoRow : OpenClaim := { program := "ytohofcmikfkilaa", sum := "f418aabd22628afd3526fcfa85626d74f0556fa176626f0d94178d55b1df92a2", func := "ignition/ignitionlaw01.OptionsStricter", spec := "optionsStricter", unfollowed := true, recurses := true, plainKeys := false, apart := false, narrowed := true }
def OptionsStricterUptoSaid : Prop := optionsStricterUptoRow.holds Try.pinned (OpenSpec.upto optionsStricterSpec)

/-- 'ignitionlaw01.OptionsPasses', WHERE WHAT IT READS IS OF BULK AT MOST 1048576: true; the input reads as it did. -/
def optionsPassesUptoRow : OpenClaim := { program := "ytohofcmikfkilaa", sum := "f418aabd22628afd3526fcfa85626d74f0556fa176626f0d94178d55b1df92a2", func := "ignition/ignitionlaw01.OptionsPasses", spec := "optionsPasses", unfollowed := true, recurses := true, plainKeys := false, apart := false, narrowed := true }
def OptionsPassesUptoSaid : Prop := optionsPassesUptoRow.holds Try.pinned (OpenSpec.upto optionsPassesSpec)

/-- 'ignitionlaw01.OptionsMissing', WHERE WHAT IT READS IS OF BULK AT MOST 1048576: true; the input reads as it did. -/
def optionsMissingUptoRow : OpenClaim := { program := "ytohofcmikfkilaa", sum := "f418aabd22628afd3526fcfa85626d74f0556fa176626f0d94178d55b1df92a2", func := "ignition/ignitionlaw01.OptionsMissing", spec := "optionsMissing", unfollowed := true, recurses := true, plainKeys := false, apart := false, narrowed := true }
def OptionsMissingUptoSaid : Prop := optionsMissingUptoRow.holds Try.pinned (OpenSpec.upto optionsMissingSpec)

/-- 'ignitionlaw01.OptionsAsked', WHERE WHAT IT READS IS OF BULK AT MOST 1048576: true; the input reads as it did. -/
def optionsAskedUptoRow : OpenClaim := { program := "ytohofcmikfkilaa", sum := "f418aabd22628afd3526fcfa85626d74f0556fa176626f0d94178d55b1df92a2", func := "ignition/ignitionlaw01.OptionsAsked", spec := "optionsAsked", unfollowed := true, recurses := true, plainKeys := false, apart := false, narrowed := true }
def OptionsAskedUptoSaid : Prop := optionsAskedUptoRow.holds Try.pinned (OpenSpec.upto optionsAskedSpec)

/-- 'ignitionlaw01.OptionsCovers', WHERE WHAT IT READS IS OF BULK AT MOST 1048576: true; the input reads as it did. -/
def optionsCoversUptoRow : OpenClaim := { program := "ytohofcmikfkilaa", sum := "f418aabd22628afd3526fcfa85626d74f0556fa176626f0d94178d55b1df92a2", func := "ignition/ignitionlaw01.OptionsCovers", spec := "optionsCovers", unfollowed := true, recurses := true, plainKeys := false, apart := false, narrowed := true }
def OptionsCoversUptoSaid : Prop := optionsCoversUptoRow.holds Try.pinned (OpenSpec.upto optionsCoversSpec)

/-- 'ignitionlaw01.OptionsExact', WHERE WHAT IT READS IS OF BULK AT MOST 1048576: true; the input reads as it did. -/
def optionsExactUptoRow : OpenClaim := { program := "ytohofcmikfkilaa", sum := "f418aabd22628afd3526fcfa85626d74f0556fa176626f0d94178d55b1df92a2", func := "ignition/ignitionlaw01.OptionsExact", spec := "optionsExact", unfollowed := true, recurses := true, plainKeys := false, apart := false, narrowed := true }
def OptionsExactUptoSaid : Prop := optionsExactUptoRow.holds Try.pinned (OpenSpec.upto optionsExactSpec)

end Rows
end Go.Proofs.Ytohofcmikfkilaa

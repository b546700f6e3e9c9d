/-
  NARROWER THAN 'FOR EVERY INPUT', by the rows' own cells (each row's printed sentence says how): OptionsParses: laid · OptionsFormats: laid.
  DERIVED. THE GIVEN ROWS OF THIS SEAT. 2 by the template 'for every input the law returns true; each argument reads behind the call as it read before'; 0 by the template 'total and deterministic' (their statements: YtjimbcklnnhloaaDoorTotals.lean).
  GIVEN WITH THE SEED: the statements are not yours to turn. If you find one false, say at which input.
  Laid BY PROGRAM, IN A SANDBOX (cutbox-rows.mjs): the forced cells as the released guide's own fill.sh prints them over the translation 77ea74cd199fd069… (all of the seat's roots in one cut). By AI agents, Wed Nov 11 2026. No macro, syntax, notation, axiom, sorry.
-/
import Derived.Test.YtjimbcklnnhloaaDoorChecked
import GoSem.Claim
import GoSem.ClaimJoined
import GoSem.ClaimMapViews
import Derived.JoinedTies
import Derived.KernelRfl
namespace Go.Proofs.YtjimbcklnnhloaaDoor
/- THE CELL 'sum', in the pinned program and in every row, IS THE sha256 OF THE DUMP (.gsa) THAT YtjimbcklnnhloaaDoorProg.lean LOADS. Nothing in Lean hashes anything: it is a label: what it is worth is what the hold of that sum in a sandbox is worth. -/
noncomputable def Tryd.pinned : Pinned := { name := "ytjimbcklnnhloaadoor", sum := "77ea74cd199fd0697f6e195085ed04b3763cd5a46818e022a081b69072cbda22", checked := Tryd.checked }
namespace Rows
def none {H : Type} : Left H := { results := [], args := [] }

/- WHAT THE LISTED PACKAGE-LEVEL VARIABLES READ AS WHEN THE CALL BEGINS. Each datum BY PROGRAM (the guide's laid-datum.mjs) off the statement by which the dump's own 'gosem.cut.vars' lays the variable. In a bare row this is a premise. The card (YtjimbcklnnhloaaDoorCards.lean) ties it to the program's text. -/
def laid_ignition_options_signs {H : Type} : DataW H := .agg [.lit (.int .u8 38), .lit (.int .u8 124), .lit (.int .u8 61)]

/-- 'ignitionlaw01.OptionsParses': WHATEVER THE INPUT: true; the input reads as it did. -/
def optionsParsesSpec : ChangeSpec := { name := "optionsParses", fn := fun _ => fun
  | [d1, d2] => { results := [.lit (.bool true)], args := [d1, d2] }
  | _ => none }
def optionsParsesRow : OpenClaim := { program := "ytjimbcklnnhloaadoor", sum := "77ea74cd199fd0697f6e195085ed04b3763cd5a46818e022a081b69072cbda22", func := "ignition/ignitionlaw01.OptionsParses", spec := "optionsParses", unfollowed := true, recurses := true, named := ["ignition/options.signs"], plainKeys := false, apart := false, laid := [("ignition/options.signs", laid_ignition_options_signs)] }
def OptionsParsesSaid : Prop := optionsParsesRow.holds Tryd.pinned (OpenSpec.ofChange optionsParsesSpec)

/-- ITS FALSE NEIGHBOUR: 'it returns false'. Refute it at one input. -/
def optionsParsesWrong : ChangeSpec := { name := "optionsParses", fn := fun _ => fun
  | [d1, d2] => { results := [.lit (.bool false)], args := [d1, d2] }
  | _ => none }
def OptionsParsesWrongFalsely : Prop := optionsParsesRow.holds Tryd.pinned (OpenSpec.ofChange optionsParsesWrong)

/-- 'ignitionlaw01.OptionsFormats': WHATEVER THE INPUT: true; the input reads as it did. -/
def optionsFormatsSpec : ChangeSpec := { name := "optionsFormats", fn := fun _ => fun
  | [d1, d2] => { results := [.lit (.bool true)], args := [d1, d2] }
  | _ => none }
def optionsFormatsRow : OpenClaim := { program := "ytjimbcklnnhloaadoor", sum := "77ea74cd199fd0697f6e195085ed04b3763cd5a46818e022a081b69072cbda22", func := "ignition/ignitionlaw01.OptionsFormats", spec := "optionsFormats", inPlace := ["internal/abi.NoEscape"], unfollowed := true, recurses := true, named := ["ignition/options.signs"], plainKeys := false, apart := false, laid := [("ignition/options.signs", laid_ignition_options_signs)] }
def OptionsFormatsSaid : Prop := optionsFormatsRow.holds Tryd.pinned (OpenSpec.ofChange optionsFormatsSpec)

/-- ITS FALSE NEIGHBOUR: 'it returns false'. Refute it at one input. -/
def optionsFormatsWrong : ChangeSpec := { name := "optionsFormats", fn := fun _ => fun
  | [d1, d2] => { results := [.lit (.bool false)], args := [d1, d2] }
  | _ => none }
def OptionsFormatsWrongFalsely : Prop := optionsFormatsRow.holds Tryd.pinned (OpenSpec.ofChange optionsFormatsWrong)

/- THE SECOND FORM. 'bulk': how many values and letters a reading holds, each counted each time it is reached (what is shared counts as often as it is met; a slice's spare places count too). A statement '..UptoSaid' is the law's where the arguments, and the package variables that the reading takes, are together of bulk at most 1048576: NARROWER than '..Said'. Prove '..Said' where nothing that the law and all that it calls make is longer than what came in: it says more and counts as full. Else prove '..UptoSaid'. A law counts once. -/
mutual
def uptoBulk {H : Type} : DataW H → Nat
  | .lit (.string bytes) => bytes.length + 1
  | .lit _ => 1
  | .nil => 1
  | .ptr d => uptoBulk d + 1
  | .slice elems spare => uptoBulkAll elems + uptoBulkAll spare + 1
  | .agg parts => uptoBulkAll parts + 1
  | .iface _ d => uptoBulk d + 1
  | .map entries => uptoBulkEntries entries + 1
  | .held _ => 1
def uptoBulkAll {H : Type} : List (DataW H) → Nat
  | [] => 0
  | d :: r => uptoBulk d + uptoBulkAll r
def uptoBulkEntries {H : Type} : List (Lit × DataW H) → Nat
  | [] => 0
  | x :: r => uptoBulkEntry x + uptoBulkEntries r
def uptoBulkEntry {H : Type} : Lit × DataW H → Nat
  | (.string bytes, d) => bytes.length + uptoBulk d + 1
  | (_, d) => uptoBulk d + 1
 end
def uptoSmall : (H : Type) → List (DataW H) → Bool := fun _ ds => decide (uptoBulkAll ds ≤ 1048576)
def OpenSpec.upto (s : _root_.Go.ChangeSpec) : _root_.Go.OpenSpec := { _root_.Go.OpenSpec.ofChange s with cond := some uptoSmall }

/-- 'ignitionlaw01.OptionsParses', WHERE WHAT IT READS IS OF BULK AT MOST 1048576: true; the input reads as it did. -/
def optionsParsesUptoRow : OpenClaim := { program := "ytjimbcklnnhloaadoor", sum := "77ea74cd199fd0697f6e195085ed04b3763cd5a46818e022a081b69072cbda22", func := "ignition/ignitionlaw01.OptionsParses", spec := "optionsParses", unfollowed := true, recurses := true, named := ["ignition/options.signs"], plainKeys := false, apart := false, laid := [("ignition/options.signs", laid_ignition_options_signs)], narrowed := true }
def OptionsParsesUptoSaid : Prop := optionsParsesUptoRow.holds Tryd.pinned (OpenSpec.upto optionsParsesSpec)

/-- 'ignitionlaw01.OptionsFormats', WHERE WHAT IT READS IS OF BULK AT MOST 1048576: true; the input reads as it did. -/
def optionsFormatsUptoRow : OpenClaim := { program := "ytjimbcklnnhloaadoor", sum := "77ea74cd199fd0697f6e195085ed04b3763cd5a46818e022a081b69072cbda22", func := "ignition/ignitionlaw01.OptionsFormats", spec := "optionsFormats", inPlace := ["internal/abi.NoEscape"], unfollowed := true, recurses := true, named := ["ignition/options.signs"], plainKeys := false, apart := false, laid := [("ignition/options.signs", laid_ignition_options_signs)], narrowed := true }
def OptionsFormatsUptoSaid : Prop := optionsFormatsUptoRow.holds Tryd.pinned (OpenSpec.upto optionsFormatsSpec)

end Rows
end Go.Proofs.YtjimbcklnnhloaaDoor

/-
  DERIVED. GIVEN WITH THE SEED: THE CARDS: each row of YtjimbcklnnhloaaDoorRows.lean that lists a variable, with what it lists TIED to the program's text (the seventh form; the later family's looks); each row that meets fmt, with fmt's text TOLD by the authors' own Lean function (tested against real Go, not proved from fmt's source: count such statements apart). THE CARD IS WHAT COUNTS. Prove the row's statement (the work); the ties are given (YtjimbcklnnhloaaDoorTie.lean); close each card by the builder's one call (the guide's Derived/Test/ToyasCard.lean, 'card_holds'). Laid BY PROGRAM, IN A SANDBOX (cutbox-door.mjs). By AI agents, Wed Nov 11 2026. No macro, syntax, notation, axiom, sorry.
-/
import Derived.Test.YtjimbcklnnhloaaDoorRows
import GoSem.ClaimSeven
namespace Go.Proofs.YtjimbcklnnhloaaDoor
namespace Rows

/-- THE TIED CARD OF 'ignitionlaw01.OptionsParses'. -/
def optionsParsesCard : Claim7 := { stood := { row := optionsParsesRow, standIns := [], harness := (true, "cfc74194249655c43bc172282d134afd5ae2765dcd84a94455b04a2d50c242bc"), looks := true }, kinds := [], alts := [], laidByText := true, laidKinds := [.widerDeep], laidTests := true, laidLooks := .later }
def OptionsParsesCardSaid : Prop := Claim7.holds Tryd.pinned (.plain (OpenSpec.ofChange optionsParsesSpec)) optionsParsesCard

/-- THE TIED CARD OF 'ignitionlaw01.OptionsFormats'. -/
def optionsFormatsCard : Claim7 := { stood := { row := optionsFormatsRow, standIns := [], harness := (true, "cfc74194249655c43bc172282d134afd5ae2765dcd84a94455b04a2d50c242bc"), looks := true }, kinds := [], alts := [], laidByText := true, laidKinds := [.widerDeep], laidTests := true, laidLooks := .later }
def OptionsFormatsCardSaid : Prop := Claim7.holds Tryd.pinned (.plain (OpenSpec.ofChange optionsFormatsSpec)) optionsFormatsCard

/-- THE SECOND FORM's CARD OF 'ignitionlaw01.OptionsParses'. -/
def optionsParsesUptoCard : Claim7 := { stood := { row := optionsParsesUptoRow, standIns := [], harness := (true, "cfc74194249655c43bc172282d134afd5ae2765dcd84a94455b04a2d50c242bc"), looks := true }, kinds := [], alts := [], laidByText := true, laidKinds := [.widerDeep], laidTests := true, laidLooks := .later }
def OptionsParsesUptoCardSaid : Prop := Claim7.holds Tryd.pinned (.plain (OpenSpec.upto optionsParsesSpec)) optionsParsesUptoCard

/-- THE SECOND FORM's CARD OF 'ignitionlaw01.OptionsFormats'. -/
def optionsFormatsUptoCard : Claim7 := { stood := { row := optionsFormatsUptoRow, standIns := [], harness := (true, "cfc74194249655c43bc172282d134afd5ae2765dcd84a94455b04a2d50c242bc"), looks := true }, kinds := [], alts := [], laidByText := true, laidKinds := [.widerDeep], laidTests := true, laidLooks := .later }
def OptionsFormatsUptoCardSaid : Prop := Claim7.holds Tryd.pinned (.plain (OpenSpec.upto optionsFormatsSpec)) optionsFormatsUptoCard
end Rows
end Go.Proofs.YtjimbcklnnhloaaDoor

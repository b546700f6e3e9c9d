/- Part 42 of this claim's texts: walks and plain laws. -/
import Derived.Test.YtmabfnddedffoaaRows
import Derived.Test.YtmabfnddedffoaaGLC11
/- The laws' looms, opened: no condition. -/
namespace Go.Proofs.Ytmabfnddedffoaa
open Go.Joins Go.ChangeShapes Go.WideShapes Go.ChangeAt Go.RowKit Go.Deep
set_option maxRecDepth 100000
set_option linter.unusedVariables false
set_option linter.unusedSimpArgs false
section
variable {H : Type} {enc : TypeId × Value → H} {W : World} {base b0 : Nat} {r : Reach} {spare : Nat → Bool} {held : Bool} {v : Value} {d : DataW H} {p : List MemPlace}
theorem open_lo (hv : Value.okWide Try.prog W r b0 31 v) (h : DataW.Trod enc Try.prog W base spare held 31 v d p) :
    ∃ (A0 A1 A2 A3 A4 A5 : Option Addr) (q0 q1 q2 q3 q4 q5 : Nat), ∃ l : Lo, v = .agg #[.slice A0 l.m.opts.length q0, .slice A1 l.m.rules.length q1, .slice A2 l.ss.length q2, .slice A3 l.us.length q3, .slice A4 l.ps.length q4, .slice A5 l.ws.length q5] ∧ LoA W W.heap.size A0 A1 A2 A3 A4 A5 q0 q1 q2 q3 q4 q5 l ∧ SizedL l := by
  obtain ⟨ov, rv, sv, uv, pv, wv, l, rfl, hl, hs, _⟩ := open_loom hv h
  obtain ⟨A0, A1, A2, A3, A4, A5, q0, q1, q2, q3, q4, q5, rfl, rfl, rfl, rfl, rfl, rfl, hla⟩ := hl.form
  exact ⟨A0, A1, A2, A3, A4, A5, q0, q1, q2, q3, q4, q5, l, rfl, hla, hs⟩
end
end Go.Proofs.Ytmabfnddedffoaa

/- The arguments of the laws about wires, opened: no condition. -/
import Derived.Test.YtejjjijaojkohaaRows
import Derived.Test.YtejjjijaojkohaaW9
import Derived.Test.YtejjjijaojkohaaK4
namespace Go.Proofs.Ytejjjijaojkohaa
open Go.Joins Go.ChangeShapes Go.WideShapes Go.ChangeAt Go.RowKit Go.Deep
set_option maxRecDepth 100000
section
variable {H : Type} {enc : TypeId × Value → H} {W : World} {base b0 : Nat} {r : Reach} {spare : Nat → Bool} {held : Bool} {v : Value} {d : DataW H} {p : List MemPlace}

def I64 (n : Int) : Prop := -9223372036854775808 ≤ n ∧ n ≤ 9223372036854775807
theorem I64.of {n : Int} (h : (Lit.int .i64 n).wf = true) : I64 n := by
  simp [Lit.wf, IntKind.min, IntKind.max, IntKind.signed, IntKind.bits] at h
  exact ⟨by omega, by omega⟩
theorem int_cell {n : Nat} {c : Value} {y : DataW H × List MemPlace} (h : DataW.trod enc Try.prog W base spare held n 3 [c] = some y) : ∃ a, c = .int .i64 a ∧ I64 a := by
  obtain ⟨a, e0, _, wa⟩ := DataW.trod_int Try.underlying3 h
  simp at e0
  exact ⟨a, e0, I64.of wa⟩

theorem open_gauge (hv : Value.okWide Try.prog W r b0 23 v) (h : DataW.Trod enc Try.prog W base spare held 23 v d p) :
    ∃ g : Ga, v = .agg #[.int .i64 g.area, .int .i64 g.ohm, .int .i64 g.heat, .int .i64 g.cool, .int .i64 g.limit] := by
  obtain ⟨c0, c1, c2, c3, c4, y0, y1, y2, y3, y4, m, rfl, _, _, hy0, hy1, hy2, hy3, hy4⟩ := open_agg5 Try.underlying23 (by kernel_rfl) (by kernel_rfl) hv h
  obtain ⟨a0, rfl, _⟩ := int_cell hy0
  obtain ⟨a1, rfl, _⟩ := int_cell hy1
  obtain ⟨a2, rfl, _⟩ := int_cell hy2
  obtain ⟨a3, rfl, _⟩ := int_cell hy3
  obtain ⟨a4, rfl, _⟩ := int_cell hy4
  exact ⟨⟨a0, a1, a2, a3, a4⟩, rfl⟩
theorem open_fuse (hv : Value.okWide Try.prog W r b0 30 v) (h : DataW.Trod enc Try.prog W base spare held 30 v d p) :
    ∃ f : Fu, v = .agg #[.int .i64 f.rating, .int .i64 f.melt] := by
  obtain ⟨c0, c1, y0, y1, m, rfl, _, _, hy0, hy1⟩ := open_agg2 Try.underlying30 (by kernel_rfl) (by kernel_rfl) hv h
  obtain ⟨a0, rfl, _⟩ := int_cell hy0
  obtain ⟨a1, rfl, _⟩ := int_cell hy1
  exact ⟨⟨a0, a1⟩, rfl⟩
theorem open_i64 (hv : Value.okWide Try.prog W r b0 3 v) (h : DataW.Trod enc Try.prog W base spare held 3 v d p) : ∃ a, v = .int .i64 a ∧ I64 a := by
  obtain ⟨a, rfl, _, _, wa⟩ := open_int Try.underlying3 hv h
  exact ⟨a, rfl, I64.of wa⟩
end
end Go.Proofs.Ytejjjijaojkohaa

/- Part 43 of this claim's texts: walks and plain laws. -/
import Derived.Test.YtehadoecnmfeoaaRows
import Derived.Test.YtehadoecnmfeoaaGBB13
import Derived.Test.YtehadoecnmfeoaaGBB41
/- Boards and a variant as an argument, opened. -/
namespace Go.Proofs.Ytehadoecnmfeoaa
open Go.Joins Go.ChangeShapes Go.WideShapes Go.ChangeAt Go.RowKit Go.Deep
set_option maxRecDepth 100000
set_option linter.unusedVariables false
set_option linter.unusedSimpArgs false
section
variable {H : Type} {enc : TypeId × Value → H} {W : World} {base b0 : Nat} {r : Reach} {spare : Nat → Bool} {held : Bool} {v : Value} {d : DataW H} {p : List MemPlace}
theorem cellsBool12 : Try.prog.cellsOf 4 = 1 := by kernel_rfl
theorem bools_cell12 {n : Nat} {c : Value} {y : DataW H × List MemPlace} (h : DataW.trod enc Try.prog W base spare held n 46 [c] = some y) : ∃ l : List Bool, Bols W W.heap.size c l ∧ l.length ≤ maxLen := by
  obtain ⟨xs, hsl, hl, _⟩ := open_rows (α := Bool) false (fun x _ => .bool x) (fun _ => True) Try.underlying46 cellsBool12 (by omega) (by
    intro n cs' y hlen ht
    match cs', hlen with
    | [c0], _ =>
      obtain ⟨s, h1, _⟩ := DataW.trod_bool Try.underlying4 ht
      simp at h1
      subst h1
      refine ⟨s, fun j hj => ?_, trivial⟩
      match j, hj with
      | 0, _ => rfl) h
  exact ⟨xs, hsl, hl⟩
theorem open_plan (hv : Value.okWide Try.prog W r b0 64 v) (h : DataW.Trod enc Try.prog W base spare held 64 v d p) :
    ∃ (bs : List Int) (x : List Bool) (Ab : Option Addr) (qb : Nat) (Ax : Option Addr) (qx : Nat), v = .agg #[.slice Ab bs.length qb, .slice Ax x.length qx] ∧ Ints W W.heap.size (.slice Ab bs.length qb) bs ∧ Bols W W.heap.size (.slice Ax x.length qx) x ∧ bs.length ≤ maxLen := by
  obtain ⟨c0, c1, y0, y1, m, rfl, _, _, hy0, hy1⟩ := open_agg2 Try.underlying64 (by kernel_rfl) (by kernel_rfl) hv h
  obtain ⟨bs, hb, hbl, _⟩ := ints_cell Try.underlying22 hy0
  obtain ⟨x, hx, _⟩ := bools_cell12 hy1
  obtain ⟨Ab, qb, rfl⟩ := Sl.form hb
  obtain ⟨Ax, qx, rfl⟩ := Sl.form hx
  exact ⟨bs, x, Ab, qb, Ax, qx, rfl, hb, hx, hbl⟩
end
end Go.Proofs.Ytehadoecnmfeoaa

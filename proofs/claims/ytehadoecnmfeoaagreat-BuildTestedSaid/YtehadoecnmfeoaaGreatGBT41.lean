/- Part 41 of this claim's texts: walks and plain laws. -/
import Derived.Test.YtehadoecnmfeoaaGreatRows
import Derived.Test.YtehadoecnmfeoaaGreatGBT15
import Derived.SizedLaws
import Derived.Test.YtehadoecnmfeoaaGreatGBT10
/- The room that a loom's wires take: read from the argument's weight. -/
namespace Go.Proofs.YtehadoecnmfeoaaGreat
open Go.Joins Go.ChangeShapes Go.WideShapes Go.ChangeAt Go.RowKit Go.Deep
set_option linter.unusedVariables false
set_option linter.unusedSimpArgs false
theorem bytesWi : Tryz.prog.bytesOf 76 = 80 := by kernel_rfl
theorem wires_room {H : Type} {enc : TypeId × Value → H} {W : World} {base : Nat} {spare : Nat → Bool} {held : Bool} {c0 c1 c2 c3 c4 : Value} {A : Option Addr} {n q : Nat} {d : DataW H} {p : List MemPlace} {ts : List TypeId} {ds : List (DataW H)}
    (h : DataW.Trod enc Tryz.prog W base spare held 31 (.agg #[c0, c1, c2, c3, c4, .slice A n q]) d p)
    (hw : (DataW.weightsEach Tryz.prog ts ds).all (· ≤ reachBytes) = true) (ht : ts[0]? = some 31) (hd : ds[0]? = some d) : n ≤ 17592186044000 := by
  obtain ⟨fuel, hf⟩ := h
  obtain ⟨xs, m, _, hx, _, hlen, hg⟩ := DataW.trod_struct Tryz.underlying31 hf
  have g4 := hg 4 _ rfl
  match xs, hlen with
  | [y0, y1, y2, y3, y4], _ =>
    have h4 : DataW.trod enc Tryz.prog W base spare held m 29 [.slice A n q] = some y4 := by simpa [Value.cells, cellsMo, show Tryz.prog.cellsOf 26 = 1 by kernel_rfl, show Tryz.prog.cellsOf 27 = 1 by kernel_rfl, show Tryz.prog.cellsOf 28 = 1 by kernel_rfl, show Tryz.prog.cellsOf 29 = 1 by kernel_rfl] using g4
    rcases DataW.trod_slice Tryz.underlying29 h4 with ⟨e, _⟩ | ⟨a, len, cap, elems, rest, k, _, e, ey, _, _, _, hel, _⟩
    · injection e with e1 _
      injection e1 with _ e2 _
      omega
    · injection e with e1 _
      injection e1 with _ e2 _
      have hdd : d = .agg [y0.1, y1.1, y2.1, y3.1, y4.1] := by injection hx
      have hm4 : (elems.length + rest.length) * Tryz.prog.bytesOf 76 ∈ y4.1.weights Tryz.prog 29 := by
        rw [ey]
        simp only [DataW.weights]
        rw [Tryz.underlying29]
        simp
      have hmd : (elems.length + rest.length) * Tryz.prog.bytesOf 76 ∈ d.weights Tryz.prog 31 := by
        rw [hdd]
        simp only [DataW.weights]
        rw [Tryz.underlying31]
        exact DataW.weights_mem_each (j := 4) rfl rfl _ hm4
      have hle := List.all_eq_true.1 hw _ (DataW.weights_mem_each ht hd _ hmd)
      rw [bytesWi] at hle
      have hle2 : (elems.length + rest.length) * 80 ≤ reachBytes := by simpa using hle
      unfold reachBytes at hle2
      omega
end Go.Proofs.YtehadoecnmfeoaaGreat
/- The laws' looms, opened: no condition. -/
namespace Go.Proofs.YtehadoecnmfeoaaGreat
open Go.Joins Go.ChangeShapes Go.WideShapes Go.ChangeAt Go.RowKit Go.Deep
set_option maxRecDepth 100000
set_option linter.unusedVariables false
set_option linter.unusedSimpArgs false
section
variable {H : Type} {enc : TypeId × Value → H} {W : World} {base b0 : Nat} {r : Reach} {spare : Nat → Bool} {held : Bool} {v : Value} {d : DataW H} {p : List MemPlace}
theorem open_lo (hv : Value.okWide Tryz.prog W r b0 31 v) (h : DataW.Trod enc Tryz.prog W base spare held 31 v d p) :
    ∃ (A0 A1 A2 A3 A4 A5 : Option Addr) (q0 q1 q2 q3 q4 q5 : Nat), ∃ l : Lo, v = .agg #[.slice A0 l.m.opts.length q0, .slice A1 l.m.rules.length q1, .slice A2 l.ss.length q2, .slice A3 l.us.length q3, .slice A4 l.ps.length q4, .slice A5 l.ws.length q5] ∧ LoA W W.heap.size A0 A1 A2 A3 A4 A5 q0 q1 q2 q3 q4 q5 l ∧ SizedL l := by
  obtain ⟨ov, rv, sv, uv, pv, wv, l, rfl, hl, hs, _⟩ := open_loom hv h
  obtain ⟨A0, A1, A2, A3, A4, A5, q0, q1, q2, q3, q4, q5, rfl, rfl, rfl, rfl, rfl, rfl, hla⟩ := hl.form
  exact ⟨A0, A1, A2, A3, A4, A5, q0, q1, q2, q3, q4, q5, l, rfl, hla, hs⟩
end
end Go.Proofs.YtehadoecnmfeoaaGreat
/- Boards and a variant as an argument, opened. -/
namespace Go.Proofs.YtehadoecnmfeoaaGreat
open Go.Joins Go.ChangeShapes Go.WideShapes Go.ChangeAt Go.RowKit Go.Deep
set_option maxRecDepth 100000
set_option linter.unusedVariables false
set_option linter.unusedSimpArgs false
section
variable {H : Type} {enc : TypeId × Value → H} {W : World} {base b0 : Nat} {r : Reach} {spare : Nat → Bool} {held : Bool} {v : Value} {d : DataW H} {p : List MemPlace}
theorem cellsBool12 : Tryz.prog.cellsOf 4 = 1 := by kernel_rfl
theorem bools_cell12 {n : Nat} {c : Value} {y : DataW H × List MemPlace} (h : DataW.trod enc Tryz.prog W base spare held n 35 [c] = some y) : ∃ l : List Bool, Bols W W.heap.size c l ∧ l.length ≤ maxLen := by
  obtain ⟨xs, hsl, hl, _⟩ := open_rows (α := Bool) false (fun x _ => .bool x) (fun _ => True) Tryz.underlying35 cellsBool12 (by omega) (by
    intro n cs' y hlen ht
    match cs', hlen with
    | [c0], _ =>
      obtain ⟨s, h1, _⟩ := DataW.trod_bool Tryz.underlying4 ht
      simp at h1
      subst h1
      refine ⟨s, fun j hj => ?_, trivial⟩
      match j, hj with
      | 0, _ => rfl) h
  exact ⟨xs, hsl, hl⟩
theorem open_bools12 (hv : Value.okWide Tryz.prog W r b0 35 v) (h : DataW.Trod enc Tryz.prog W base spare held 35 v d p) :
    ∃ l : List Bool, Bols W W.heap.size v l ∧ l.length ≤ maxLen := by
  obtain ⟨a0, len, cap, rfl⟩ := okWide_slice Tryz.underlying35 hv
  obtain ⟨fuel, hf⟩ := h
  exact bools_cell12 hf
end
end Go.Proofs.YtehadoecnmfeoaaGreat

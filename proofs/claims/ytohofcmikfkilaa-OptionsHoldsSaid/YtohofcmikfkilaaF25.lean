/- The arguments of the laws about options, opened: no condition. -/
import Derived.Test.YtohofcmikfkilaaRows
import Derived.Test.YtohofcmikfkilaaK7
import Derived.Test.YtohofcmikfkilaaK4
import Derived.Test.YtohofcmikfkilaaF12
namespace Go.Proofs.Ytohofcmikfkilaa
open Go.Joins Go.ChangeShapes Go.WideShapes Go.ChangeAt Go.RowKit Go.Deep
set_option maxRecDepth 100000
set_option linter.unusedVariables false
set_option linter.unusedSimpArgs false
section
variable {H : Type} {enc : TypeId × Value → H} {W : World} {base b0 : Nat} {r : Reach} {spare : Nat → Bool} {held : Bool} {v : Value} {d : DataW H} {p : List MemPlace}
def I64 (n : Int) : Prop := -9223372036854775808 ≤ n ∧ n ≤ 9223372036854775807
theorem I64.of {n : Int} (h : (Lit.int .i64 n).wf = true) : I64 n := by
  simp [Lit.wf, IntKind.min, IntKind.max, IntKind.signed, IntKind.bits] at h
  exact ⟨by omega, by omega⟩
theorem int_cell {n : Nat} {c : Value} {y : DataW H × List MemPlace} (h : DataW.trod enc Try.prog W base spare held n 3 [c] = some y) : ∃ a, c = .int .i64 a ∧ I64 a := by
  obtain ⟨a, e0, _, wa⟩ := DataW.trod_int Try.underlying3 h
  simp at e0
  exact ⟨a, e0, I64.of wa⟩
theorem cellsInt : Try.prog.cellsOf 3 = 1 := by kernel_rfl
theorem cellsStr : Try.prog.cellsOf 9 = 1 := by kernel_rfl
theorem cellsFo : Try.prog.cellsOf 35 = 1 := by kernel_rfl
theorem ints_cell {t n : Nat} {c : Value} {y : DataW H × List MemPlace} (ht : Try.prog.underlying t = some (.slice 3)) (h : DataW.trod enc Try.prog W base spare held n t [c] = some y) :
    ∃ f : List Int, Ints W W.heap.size c f ∧ f.length ≤ maxLen ∧ ∀ x ∈ f, I64 x := by
  obtain ⟨xs, hsl, hl, hR⟩ := open_rows (α := Int) 0 (fun x _ => .int .i64 x) I64 ht cellsInt (by omega) (by
    intro n cs' y hlen ht
    match cs', hlen with
    | [c0], _ =>
      obtain ⟨a, rfl, ha⟩ := int_cell ht
      refine ⟨a, fun j hj => ?_, ha⟩
      match j, hj with
      | 0, _ => rfl) h
  refine ⟨xs, hsl, hl, fun x hx => ?_⟩
  obtain ⟨i, hi, rfl⟩ := List.mem_iff_getElem.1 hx
  have := hR i hi
  rwa [List.getD_eq_getElem?_getD, List.getElem?_eq_getElem hi, Option.getD_some] at this
theorem strs_cell {t n : Nat} {c : Value} {y : DataW H × List MemPlace} (ht : Try.prog.underlying t = some (.slice 9)) (h : DataW.trod enc Try.prog W base spare held n t [c] = some y) :
    ∃ f : List ByteArray, Names W W.heap.size c f ∧ f.length ≤ maxLen ∧ ∀ x ∈ f, x.size ≤ maxLen := by
  obtain ⟨xs, hsl, hl, hR⟩ := open_rows (α := ByteArray) ByteArray.empty (fun x _ => .string x) (fun x => x.size ≤ maxLen) ht cellsStr (by omega) (by
    intro n cs' y hlen ht
    match cs', hlen with
    | [c0], _ =>
      obtain ⟨s, h1, _, h3⟩ := DataW.trod_string Try.underlying9 ht
      simp at h1
      subst h1
      refine ⟨s, fun j hj => ?_, h3⟩
      match j, hj with
      | 0, _ => rfl) h
  refine ⟨xs, hsl, hl, fun x hx => ?_⟩
  obtain ⟨i, hi, rfl⟩ := List.mem_iff_getElem.1 hx
  have := hR i hi
  rwa [List.getD_eq_getElem?_getD, List.getElem?_eq_getElem hi, Option.getD_some] at this
theorem forms_cell {t n : Nat} {c : Value} {y : DataW H × List MemPlace} (ht : Try.prog.underlying t = some (.slice 35)) (h : DataW.trod enc Try.prog W base spare held n t [c] = some y) :
    ∃ fs : List (List Int), Forms W W.heap.size c fs ∧ Sized fs := by
  obtain ⟨xs, hsl, hl, hR⟩ := open_rows (α := List Int × Value) ([], .slice none 0 0) (fun x _ => x.2) (fun x => Ints W W.heap.size x.2 x.1 ∧ x.1.length ≤ maxLen) ht cellsFo (by omega) (by
    intro n cs' y hlen ht
    match cs', hlen with
    | [c0], _ =>
      obtain ⟨f, hf, hfl, _⟩ := ints_cell Try.underlying35 ht
      refine ⟨(f, c0), fun j hj => ?_, hf, hfl⟩
      match j, hj with
      | 0, _ => rfl) h
  have hg : ∀ i, i < xs.length → (xs.map (·.1)).getD i [] = (xs.getD i ([], .slice none 0 0)).1 := fun i hi => by simp [hi]
  refine ⟨xs.map (·.1), ⟨fun i => (xs.getD i ([], .slice none 0 0)).2, ?_, fun i hi => ?_⟩, by simpa using hl, fun f hf => ?_⟩
  · rw [List.length_map]
    exact hsl
  · rw [List.length_map] at hi
    rw [hg i hi]
    exact (hR i hi).1
  · obtain ⟨x, hx, rfl⟩ := List.mem_map.1 hf
    obtain ⟨i, hi, rfl⟩ := List.mem_iff_getElem.1 hx
    have := (hR i hi).2
    rwa [List.getD_eq_getElem?_getD, List.getElem?_eq_getElem hi, Option.getD_some] at this
theorem open_model (hv : Value.okWide Try.prog W r b0 25 v) (h : DataW.Trod enc Try.prog W base spare held 25 v d p) :
    ∃ (ov rv : Value) (m : Mo), v = .agg #[ov, rv] ∧ MoAt W W.heap.size ov rv m ∧ SizedM m := by
  obtain ⟨c0, c1, y0, y1, n, rfl, _, _, hy0, hy1⟩ := open_agg2 Try.underlying25 (by kernel_rfl) (by kernel_rfl) hv h
  obtain ⟨os, ho, hol, hos⟩ := strs_cell Try.underlying22 hy0
  obtain ⟨fs, hf, hfs⟩ := forms_cell Try.underlying23 hy1
  exact ⟨c0, c1, ⟨os, fs⟩, rfl, ⟨ho, hf⟩, ⟨hol, hos, hfs⟩⟩
theorem open_formula {t : Nat} (ht : Try.prog.underlying t = some (.slice 3)) (hv : Value.okWide Try.prog W r b0 t v) (h : DataW.Trod enc Try.prog W base spare held t v d p) :
    ∃ f : List Int, Ints W W.heap.size v f ∧ f.length ≤ maxLen ∧ ∀ x ∈ f, I64 x := by
  obtain ⟨a0, len, cap, rfl⟩ := okWide_slice ht hv
  obtain ⟨fuel, hf⟩ := h
  exact ints_cell ht hf
theorem open_forms {t : Nat} (ht : Try.prog.underlying t = some (.slice 35)) (hv : Value.okWide Try.prog W r b0 t v) (h : DataW.Trod enc Try.prog W base spare held t v d p) :
    ∃ fs : List (List Int), Forms W W.heap.size v fs ∧ Sized fs := by
  obtain ⟨a0, len, cap, rfl⟩ := okWide_slice ht hv
  obtain ⟨fuel, hf⟩ := h
  exact forms_cell ht hf
end
end Go.Proofs.Ytohofcmikfkilaa

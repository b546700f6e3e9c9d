/- Diagrams handed in, and where a variant comes to in one. Plain laws; the arguments opened: no condition. -/
import Derived.Test.YtohofcmikfkilaaRows
import Derived.Test.YtohofcmikfkilaaF18
import Derived.Test.YtohofcmikfkilaaF25
namespace Go.Proofs.Ytohofcmikfkilaa
open Go.Joins Go.ChangeShapes Go.WideShapes Go.ChangeAt Go.RowKit Go.Deep
set_option maxRecDepth 100000
set_option linter.unusedVariables false
set_option linter.unusedSimpArgs false
structure Kt where
  o : Int
  l : Int
  h : Int
def Kt.z : Kt := ⟨0, 0, 0⟩
def ktF (k : Kt) (j : Nat) : Value := match j with
  | 0 => .int .i64 k.o
  | 1 => .int .i64 k.l
  | _ => .int .i64 k.h
def Kts (w : World) (B : Nat) (v : Value) (ks : List Kt) : Prop := Sl w B 3 v ks.length (fun i j => ktF (ks.getD i Kt.z) j)
theorem kAt {w : World} {B b off : Nat} {A : Option Addr} {ks : List Kt} {k : Nat} (hA : A = some ⟨b, off, none⟩ ∧ b < B ∨ ks.length = 0)
    (hc : ∀ i j, i < ks.length → j < 3 → w.cell? ⟨b, off + (i * 3 + j), none⟩ = some (ktF (ks.getD i Kt.z) j)) (hk : k < ks.length) :
    A = some ⟨b, off, none⟩ ∧ b < B ∧ w.cell? ⟨b, off + k * 3, none⟩ = some (.int .i64 (ks.getD k Kt.z).o) ∧ w.cell? ⟨b, off + k * 3 + 1, none⟩ = some (.int .i64 (ks.getD k Kt.z).l) ∧ w.cell? ⟨b, off + k * 3 + 2, none⟩ = some (.int .i64 (ks.getD k Kt.z).h) := by
  rcases hA with ⟨h1, h2⟩ | h
  · exact ⟨h1, h2, hc k 0 hk (by omega), hc k 1 hk (by omega), hc k 2 hk (by omega)⟩
  · omega
/-- Whether one may go on to a place. -/
def goB (ks : List Kt) (before : Nat) (o q : Int) : Bool := q == -1 || q == -2 || (decide (0 ≤ q) && decide (q < before) && decide (o < (ks.getD q.toNat Kt.z).o))
def okB (n : Nat) (ks : List Kt) (i : Nat) : Bool := decide (0 ≤ (ks.getD i Kt.z).o) && decide ((ks.getD i Kt.z).o < n) && goB ks i (ks.getD i Kt.z).o (ks.getD i Kt.z).l && goB ks i (ks.getD i Kt.z).o (ks.getD i Kt.z).h
/-- Where one goes on from a knot. -/
def nxt (ks : List Kt) (v : List Bool) (r : Int) : Int := if v.getD (ks.getD r.toNat Kt.z).o.toNat false then (ks.getD r.toNat Kt.z).h else (ks.getD r.toNat Kt.z).l
def flw (ks : List Kt) (v : List Bool) : Nat → Int → Int
  | 0, r => r
  | n + 1, r => if r < 0 then r else flw ks v n (nxt ks v r)
theorem flw_neg (ks : List Kt) (v : List Bool) (n : Nat) {r : Int} (h : r < 0) : flw ks v n r = r := by
  cases n with
  | zero => rfl
  | succ n => simp only [flw]; rw [if_pos h]
theorem flw_go (ks : List Kt) (v : List Bool) (n : Nat) {r : Int} (h : 0 ≤ r) : flw ks v (n + 1) r = flw ks v n (nxt ks v r) := by
  simp only [flw]; rw [if_neg (by omega)]
theorem goB_bd {ks : List Kt} {before : Nat} {o q : Int} (h : goB ks before o q = true) : -2 ≤ q ∧ q < before := by
  unfold goB at h
  simp only [Bool.or_eq_true, Bool.and_eq_true, decide_eq_true_eq, beq_iff_eq] at h
  omega
theorem nxt_bd {n : Nat} {ks : List Kt} {v : List Bool} {k : Nat} (h : okB n ks k = true) : -2 ≤ nxt ks v k ∧ nxt ks v k < k := by
  unfold okB at h
  simp only [Bool.and_eq_true] at h
  have h1 := goB_bd h.1.2
  have h2 := goB_bd h.2
  unfold nxt
  rw [Int.toNat_natCast]
  split
  · exact h2
  · exact h1
theorem okB_bd {n : Nat} {ks : List Kt} {k : Nat} (h : okB n ks k = true) : 0 ≤ (ks.getD k Kt.z).o ∧ (ks.getD k Kt.z).o < n := by
  unfold okB at h
  simp only [Bool.and_eq_true, decide_eq_true_eq] at h
  exact h.1.1
def allB (n : Nat) (ks : List Kt) : Bool := (List.range ks.length).all (okB n ks)
theorem allB_yes {n : Nat} {ks : List Kt} (h : ∀ i, i < ks.length → okB n ks i = true) : allB n ks = true := by
  unfold allB
  rw [List.all_eq_true]
  intro i hi
  exact h i (List.mem_range.1 hi)
theorem allB_no {n : Nat} {ks : List Kt} {i : Nat} (hi : i < ks.length) (h : okB n ks i = false) : allB n ks = false := by
  rw [Bool.eq_false_iff]
  intro h1
  unfold allB at h1
  rw [List.all_eq_true] at h1
  have := h1 i (List.mem_range.2 hi)
  rw [h] at this
  cases this
/-- What Follow returns. -/
def folE (m : Mo) (ks : List Kt) (r : Int) (v : List Bool) : Int := if m.err ≠ 0 then m.err else if 2000 < ks.length ∨ allB m.opts.length ks = false ∨ r < -2 ∨ (ks.length : Int) ≤ r ∨ v.length ≠ m.opts.length then 1 else 0
def folB (m : Mo) (ks : List Kt) (r : Int) (v : List Bool) : Bool := if folE m ks r v = 0 then flw ks v ks.length r == -2 else false
theorem fol_err {m : Mo} {ks : List Kt} {r : Int} {v : List Bool} (h : m.err ≠ 0) : folE m ks r v = m.err ∧ folB m ks r v = false := by
  have h1 : folE m ks r v = m.err := by unfold folE; rw [if_pos h]
  exact ⟨h1, by unfold folB; rw [h1, if_neg h]⟩
theorem fol_arg {m : Mo} {ks : List Kt} {r : Int} {v : List Bool} (h : m.err = 0) (h2 : 2000 < ks.length ∨ allB m.opts.length ks = false ∨ r < -2 ∨ (ks.length : Int) ≤ r ∨ v.length ≠ m.opts.length) : folE m ks r v = 1 ∧ folB m ks r v = false := by
  have h1 : folE m ks r v = 1 := by unfold folE; rw [if_neg (by simp [h]), if_pos h2]
  exact ⟨h1, by unfold folB; rw [h1, if_neg (by omega)]⟩
theorem fol_ok {m : Mo} {ks : List Kt} {r : Int} {v : List Bool} (h : m.err = 0) (h1 : ks.length ≤ 2000) (h2 : allB m.opts.length ks = true) (h3 : -2 ≤ r) (h4 : r < ks.length) (h5 : v.length = m.opts.length) : folE m ks r v = 0 ∧ folB m ks r v = (flw ks v ks.length r == -2) := by
  have h0 : folE m ks r v = 0 := by
    unfold folE
    rw [if_neg (by simp [h]), if_neg ?_]
    rintro (h6 | h6 | h6 | h6 | h6)
    · omega
    · rw [h2] at h6; cases h6
    · omega
    · omega
    · exact h6 h5
  exact ⟨h0, by unfold folB; rw [if_pos h0]⟩
section
variable {H : Type} {enc : TypeId × Value → H} {W : World} {base b0 : Nat} {r : Reach} {spare : Nat → Bool} {held : Bool} {v : Value} {d : DataW H} {p : List MemPlace}
theorem cellsKt : Try.prog.cellsOf 114 = 3 := by kernel_rfl
theorem cellsBool : Try.prog.cellsOf 4 = 1 := by kernel_rfl
theorem knots_cell {n : Nat} {c : Value} {y : DataW H × List MemPlace} (h : DataW.trod enc Try.prog W base spare held n 44 [c] = some y) :
    ∃ ks : List Kt, Kts W W.heap.size c ks ∧ ks.length ≤ maxLen ∧ ∀ k ∈ ks, I64 k.l ∧ I64 k.h := by
  obtain ⟨xs, hsl, hl, hR⟩ := open_rows (α := Kt) Kt.z ktF (fun k => I64 k.l ∧ I64 k.h) Try.underlying44 cellsKt (by omega) (by
    intro n cs' y hlen ht
    match cs', hlen with
    | [c0, c1, c2], _ =>
      obtain ⟨xs, n', _, _, _, hlen, hf⟩ := DataW.trod_struct Try.underlying114 ht
      have g0 := hf 0 _ rfl
      have g1 := hf 1 _ rfl
      have g2 := hf 2 _ rfl
      match xs, hlen with
      | [y0, y1, y2], _ =>
        obtain ⟨a0, rfl, _⟩ := int_cell (y := y0) (by simpa [cellsInt] using g0)
        obtain ⟨a1, rfl, q1⟩ := int_cell (y := y1) (by simpa [cellsInt] using g1)
        obtain ⟨a2, rfl, q2⟩ := int_cell (y := y2) (by simpa [cellsInt] using g2)
        refine ⟨⟨a0, a1, a2⟩, fun j hj => ?_, q1, q2⟩
        match j, hj with
        | 0, _ => rfl
        | 1, _ => rfl
        | 2, _ => rfl) h
  refine ⟨xs, hsl, hl, fun x hx => ?_⟩
  obtain ⟨i, hi, rfl⟩ := List.mem_iff_getElem.1 hx
  have := hR i hi
  rwa [List.getD_eq_getElem?_getD, List.getElem?_eq_getElem hi, Option.getD_some] at this
theorem open_walk (hv : Value.okWide Try.prog W r b0 46 v) (h : DataW.Trod enc Try.prog W base spare held 46 v d p) :
    ∃ (kv : Value) (ks : List Kt) (n : Int), v = .agg #[kv, .int .i64 n] ∧ Kts W W.heap.size kv ks ∧ ks.length ≤ maxLen := by
  obtain ⟨c0, c1, y0, y1, m, rfl, _, _, hy0, hy1⟩ := open_agg2 Try.underlying46 (by kernel_rfl) (by kernel_rfl) hv h
  obtain ⟨ks, hk, hkl, _⟩ := knots_cell hy0
  obtain ⟨a1, rfl, _⟩ := int_cell hy1
  exact ⟨c0, ks, a1, rfl, hk, hkl⟩
theorem open_bools (hv : Value.okWide Try.prog W r b0 29 v) (h : DataW.Trod enc Try.prog W base spare held 29 v d p) :
    ∃ l : List Bool, Bols W W.heap.size v l ∧ l.length ≤ maxLen := by
  obtain ⟨a0, len, cap, rfl⟩ := okWide_slice Try.underlying29 hv
  obtain ⟨fuel, hf⟩ := h
  obtain ⟨xs, hsl, hl, _⟩ := open_rows (α := Bool) false (fun x _ => .bool x) (fun _ => True) Try.underlying29 cellsBool (by omega) (by
    intro n cs' y hlen ht
    match cs', hlen with
    | [c0], _ =>
      obtain ⟨s, h1, _⟩ := DataW.trod_bool Try.underlying4 ht
      simp at h1
      subst h1
      refine ⟨s, fun j hj => ?_, trivial⟩
      match j, hj with
      | 0, _ => rfl) hf
  exact ⟨xs, hsl, hl⟩
end
end Go.Proofs.Ytohofcmikfkilaa

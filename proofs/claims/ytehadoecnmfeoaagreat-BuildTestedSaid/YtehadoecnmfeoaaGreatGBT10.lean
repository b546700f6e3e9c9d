/- Part 10 of this claim's texts: walks and plain laws. -/
import Derived.Test.YtehadoecnmfeoaaGreatGBT1
import Derived.Test.YtehadoecnmfeoaaGreatGBT9
import Derived.Test.YtehadoecnmfeoaaGreatRows
import Derived.Test.YtehadoecnmfeoaaGreatGBT8
import Derived.WalkLawsBesides
import Derived.WalkSpells
import Derived.Deep.QuietTactic
import Derived.OwnWalk
import Derived.Deep.DeepMust
import Derived.Deep.RegionHeld3
import Derived.Deep.DrawnRows
import Derived.Test.YtehadoecnmfeoaaGreatGBT3
/- A slice argument opened, whatever its elements are: each element by a law of its own. No condition. -/
namespace Go.Proofs.YtehadoecnmfeoaaGreat
open Go.Joins Go.ChangeShapes Go.WideShapes Go.ChangeAt Go.RowKit Go.Deep

theorem choose_upto {α : Type} (z : α) {n : Nat} {Q : Nat → α → Prop} (h : ∀ i, i < n → ∃ x, Q i x) : ∃ xs : List α, xs.length = n ∧ ∀ i, i < n → Q i (xs.getD i z) := by
  induction n with
  | zero => exact ⟨[], rfl, fun i hi => absurd hi (by omega)⟩
  | succ n ih =>
    obtain ⟨xs, hl, hx⟩ := ih fun i hi => h i (by omega)
    obtain ⟨y, hy⟩ := h n (by omega)
    refine ⟨xs ++ [y], by simp [hl], fun i hi => ?_⟩
    rcases Nat.lt_or_ge i n with h1 | h1
    · have := hx i h1
      rw [List.getD_eq_getElem?_getD, List.getElem?_append_left (by omega), ← List.getD_eq_getElem?_getD]
      exact this
    · have he : i = n := by omega
      subst he
      rw [List.getD_eq_getElem?_getD, List.getElem?_append_right (by omega), hl]
      simpa using hy

section
variable {H : Type} {enc : TypeId × Value → H} {P : Program} {w : World} {base : Nat} {spare : Nat → Bool} {held : Bool}
theorem addr_of_cell {a : Addr} {u : Value} (h : w.cell? (a.add 0) = some u) : a.spot = none ∧ a.block < w.heap.size := by
  have h' : w.cell? a = some u := h
  unfold World.cell? at h'
  cases hh : w.heap[a.block]? with
  | none => rw [hh] at h'; cases h'
  | some o =>
    refine ⟨?_, (Array.getElem?_eq_some_iff.1 hh).1⟩
    rw [hh] at h'
    cases o with
    | cells c t f =>
      simp only at h'
      cases hsp : a.spot with
      | none => rfl
      | some q => rw [if_pos (by simp [hsp])] at h'; cases h'
    | _ => cases h'
theorem cell_of_add {a : Addr} {m : Nat} {u : Value} (hs : a.spot = none) (h : w.cell? (a.add m) = some u) : w.cell? ⟨a.block, a.off + m, none⟩ = some u := by
  obtain ⟨b, o, s⟩ := a
  simp only at hs
  subst hs
  unfold Addr.add at h
  split at h
  · rename_i h0
    rw [h0]; exact h
  · exact h

theorem open_rows {α : Type} (z : α) (F : α → Nat → Value) (R : α → Prop) {t e : TypeId} {sz n : Nat} {c : Value} {y : DataW H × List MemPlace} (ht : P.underlying t = some (.slice e)) (hC : P.cellsOf e = sz) (hsz : 0 < sz)
    (hopen : ∀ (n : Nat) (cs' : List Value) (y : DataW H × List MemPlace), cs'.length = sz → DataW.trod enc P w base spare held n e cs' = some y → ∃ x : α, (∀ j, j < sz → cs'[j]? = some (F x j)) ∧ R x)
    (h : DataW.trod enc P w base spare held n t [c] = some y) :
    ∃ xs : List α, Sl w w.heap.size sz c xs.length (fun i j => F (xs.getD i z) j) ∧ xs.length ≤ maxLen ∧ ∀ i, i < xs.length → R (xs.getD i z) := by
  rcases open_slice ht h with ⟨hcs, _⟩ | ⟨a, len, cap, m, n', D, Pl, hcs, _, hl, hm, hmm, _, hel⟩
  · simp at hcs
    subst hcs
    exact ⟨[], Sl.nil _ _ _ _, by simp, fun i hi => absurd hi (by simp)⟩
  · simp at hcs
    subst hcs
    have hlm : len ≤ m := by rw [hmm]; split <;> omega
    have hx : ∀ i, i < len → ∃ x : α, (∀ j, j < sz → w.cell? (a.add (i * sz + j)) = some (F x j)) ∧ R x := by
      intro i hi
      obtain ⟨cs', hc, ht'⟩ := hel i (by omega)
      rw [hC] at hc
      obtain ⟨_, hcl, hat⟩ := World.cells?_some hc
      obtain ⟨x, hx, hr⟩ := hopen _ _ _ hcl ht'
      refine ⟨x, fun j hj => ?_, hr⟩
      rw [← Go.Deep.add_add, hat j hj]
      exact hx j hj
    obtain ⟨xs, hlen, hxs⟩ := choose_upto z hx
    refine ⟨xs, ?_, by omega, fun i hi => (hxs i (by omega)).2⟩
    rw [hlen]
    rcases Nat.eq_zero_or_pos len with h0 | h0
    · exact ⟨_, 0, 0, _, rfl, hl, .inr h0, fun i j hi => absurd hi (by omega)⟩
    · have h1 := (hxs 0 h0).1 0 hsz
      rw [Nat.zero_mul] at h1
      obtain ⟨hs, hb⟩ := addr_of_cell h1
      exact ⟨_, a.block, a.off, _, rfl, hl, .inl ⟨by rw [← hs], hb⟩, fun i j hi hj => cell_of_add hs ((hxs i hi).1 j hj)⟩
end
end Go.Proofs.YtehadoecnmfeoaaGreat
/- The arguments of the laws about options, opened: no condition. -/
namespace Go.Proofs.YtehadoecnmfeoaaGreat
open Go.Joins Go.ChangeShapes Go.WideShapes Go.ChangeAt Go.RowKit Go.Deep
set_option maxRecDepth 100000
set_option linter.unusedVariables false
set_option linter.unusedSimpArgs false
section
variable {H : Type} {enc : TypeId × Value → H} {W : World} {base b0 : Nat} {r : Reach} {spare : Nat → Bool} {held : Bool} {v : Value} {d : DataW H} {p : List MemPlace}
def I64 (n : Int) : Prop := -9223372036854775808 ≤ n ∧ n ≤ 9223372036854775807
theorem I64.of {n : Int} (h : (Lit.int .i64 n).wf = true) : I64 n := by
  simp [Lit.wf, IntKind.min, IntKind.max, IntKind.signed, IntKind.bits] at h
  exact ⟨by omega, by omega⟩
theorem int_cell {n : Nat} {c : Value} {y : DataW H × List MemPlace} (h : DataW.trod enc Tryz.prog W base spare held n 3 [c] = some y) : ∃ a, c = .int .i64 a ∧ I64 a := by
  obtain ⟨a, e0, _, wa⟩ := DataW.trod_int Tryz.underlying3 h
  simp at e0
  exact ⟨a, e0, I64.of wa⟩
theorem cellsInt : Tryz.prog.cellsOf 3 = 1 := by kernel_rfl
theorem cellsStr : Tryz.prog.cellsOf 9 = 1 := by kernel_rfl
theorem cellsFo : Tryz.prog.cellsOf 46 = 1 := by kernel_rfl
theorem ints_cell {t n : Nat} {c : Value} {y : DataW H × List MemPlace} (ht : Tryz.prog.underlying t = some (.slice 3)) (h : DataW.trod enc Tryz.prog W base spare held n t [c] = some y) :
    ∃ f : List Int, Ints W W.heap.size c f ∧ f.length ≤ maxLen ∧ ∀ x ∈ f, I64 x := by
  obtain ⟨xs, hsl, hl, hR⟩ := open_rows (α := Int) 0 (fun x _ => .int .i64 x) I64 ht cellsInt (by omega) (by
    intro n cs' y hlen ht
    match cs', hlen with
    | [c0], _ =>
      obtain ⟨a, rfl, ha⟩ := int_cell ht
      refine ⟨a, fun j hj => ?_, ha⟩
      match j, hj with
      | 0, _ => rfl) h
  refine ⟨xs, hsl, hl, fun x hx => ?_⟩
  obtain ⟨i, hi, rfl⟩ := List.mem_iff_getElem.1 hx
  have := hR i hi
  rwa [List.getD_eq_getElem?_getD, List.getElem?_eq_getElem hi, Option.getD_some] at this
theorem strs_cell {t n : Nat} {c : Value} {y : DataW H × List MemPlace} (ht : Tryz.prog.underlying t = some (.slice 9)) (h : DataW.trod enc Tryz.prog W base spare held n t [c] = some y) :
    ∃ f : List ByteArray, Names W W.heap.size c f ∧ f.length ≤ maxLen ∧ ∀ x ∈ f, x.size ≤ maxLen := by
  obtain ⟨xs, hsl, hl, hR⟩ := open_rows (α := ByteArray) ByteArray.empty (fun x _ => .string x) (fun x => x.size ≤ maxLen) ht cellsStr (by omega) (by
    intro n cs' y hlen ht
    match cs', hlen with
    | [c0], _ =>
      obtain ⟨s, h1, _, h3⟩ := DataW.trod_string Tryz.underlying9 ht
      simp at h1
      subst h1
      refine ⟨s, fun j hj => ?_, h3⟩
      match j, hj with
      | 0, _ => rfl) h
  refine ⟨xs, hsl, hl, fun x hx => ?_⟩
  obtain ⟨i, hi, rfl⟩ := List.mem_iff_getElem.1 hx
  have := hR i hi
  rwa [List.getD_eq_getElem?_getD, List.getElem?_eq_getElem hi, Option.getD_some] at this
theorem forms_cell {t n : Nat} {c : Value} {y : DataW H × List MemPlace} (ht : Tryz.prog.underlying t = some (.slice 46)) (h : DataW.trod enc Tryz.prog W base spare held n t [c] = some y) :
    ∃ fs : List (List Int), Forms W W.heap.size c fs ∧ Sized fs := by
  obtain ⟨xs, hsl, hl, hR⟩ := open_rows (α := List Int × Value) ([], .slice none 0 0) (fun x _ => x.2) (fun x => Ints W W.heap.size x.2 x.1 ∧ x.1.length ≤ maxLen) ht cellsFo (by omega) (by
    intro n cs' y hlen ht
    match cs', hlen with
    | [c0], _ =>
      obtain ⟨f, hf, hfl, _⟩ := ints_cell Tryz.underlying46 ht
      refine ⟨(f, c0), fun j hj => ?_, hf, hfl⟩
      match j, hj with
      | 0, _ => rfl) h
  have hg : ∀ i, i < xs.length → (xs.map (·.1)).getD i [] = (xs.getD i ([], .slice none 0 0)).1 := fun i hi => by simp [hi]
  refine ⟨xs.map (·.1), ⟨fun i => (xs.getD i ([], .slice none 0 0)).2, ?_, fun i hi => ?_⟩, by simpa using hl, fun f hf => ?_⟩
  · rw [List.length_map]
    exact hsl
  · rw [List.length_map] at hi
    rw [hg i hi]
    exact (hR i hi).1
  · obtain ⟨x, hx, rfl⟩ := List.mem_map.1 hf
    obtain ⟨i, hi, rfl⟩ := List.mem_iff_getElem.1 hx
    have := (hR i hi).2
    rwa [List.getD_eq_getElem?_getD, List.getElem?_eq_getElem hi, Option.getD_some] at this
theorem open_formula {t : Nat} (ht : Tryz.prog.underlying t = some (.slice 3)) (hv : Value.okWide Tryz.prog W r b0 t v) (h : DataW.Trod enc Tryz.prog W base spare held t v d p) :
    ∃ f : List Int, Ints W W.heap.size v f ∧ f.length ≤ maxLen ∧ ∀ x ∈ f, I64 x := by
  obtain ⟨a0, len, cap, rfl⟩ := okWide_slice ht hv
  obtain ⟨fuel, hf⟩ := h
  exact ints_cell ht hf
end
end Go.Proofs.YtehadoecnmfeoaaGreat
/- Diagrams handed in, and where a variant comes to in one. Plain laws; the arguments opened: no condition. -/
namespace Go.Proofs.YtehadoecnmfeoaaGreat
open Go.Joins Go.ChangeShapes Go.WideShapes Go.ChangeAt Go.RowKit Go.Deep
set_option maxRecDepth 100000
set_option linter.unusedVariables false
set_option linter.unusedSimpArgs false
structure Kt where
  o : Int
  l : Int
  h : Int
def Kt.z : Kt := ⟨0, 0, 0⟩
def ktF (k : Kt) (j : Nat) : Value := match j with
  | 0 => .int .i64 k.o
  | 1 => .int .i64 k.l
  | _ => .int .i64 k.h
def Kts (w : World) (B : Nat) (v : Value) (ks : List Kt) : Prop := Sl w B 3 v ks.length (fun i j => ktF (ks.getD i Kt.z) j)
/-- Whether one may go on to a place. -/
def goB (ks : List Kt) (before : Nat) (o q : Int) : Bool := q == -1 || q == -2 || (decide (0 ≤ q) && decide (q < before) && decide (o < (ks.getD q.toNat Kt.z).o))
def okB (n : Nat) (ks : List Kt) (i : Nat) : Bool := decide (0 ≤ (ks.getD i Kt.z).o) && decide ((ks.getD i Kt.z).o < n) && goB ks i (ks.getD i Kt.z).o (ks.getD i Kt.z).l && goB ks i (ks.getD i Kt.z).o (ks.getD i Kt.z).h
/-- Where one goes on from a knot. -/
def nxt (ks : List Kt) (v : List Bool) (r : Int) : Int := if v.getD (ks.getD r.toNat Kt.z).o.toNat false then (ks.getD r.toNat Kt.z).h else (ks.getD r.toNat Kt.z).l
def flw (ks : List Kt) (v : List Bool) : Nat → Int → Int
  | 0, r => r
  | n + 1, r => if r < 0 then r else flw ks v n (nxt ks v r)
def allB (n : Nat) (ks : List Kt) : Bool := (List.range ks.length).all (okB n ks)
/-- What Follow returns. -/
def folE (m : Mo) (ks : List Kt) (r : Int) (v : List Bool) : Int := if m.err ≠ 0 then m.err else if 2000 < ks.length ∨ allB m.opts.length ks = false ∨ r < -2 ∨ (ks.length : Int) ≤ r ∨ v.length ≠ m.opts.length then 1 else 0
def folB (m : Mo) (ks : List Kt) (r : Int) (v : List Bool) : Bool := if folE m ks r v = 0 then flw ks v ks.length r == -2 else false
section
variable {H : Type} {enc : TypeId × Value → H} {W : World} {base b0 : Nat} {r : Reach} {spare : Nat → Bool} {held : Bool} {v : Value} {d : DataW H} {p : List MemPlace}
end
end Go.Proofs.YtehadoecnmfeoaaGreat
/- The value of a formula as the elder program has it: walk. -/
namespace Go.Proofs.YtehadoecnmfeoaaGreat
open Go.RowKit
set_option linter.unusedVariables false
set_option linter.unusedSimpArgs false
/-- What eval tells of the term at place p. -/
def EvR (N : Nat) (v : Nat → Bool) (f : List Int) (p c : Nat) (x : Bool) (q : Nat) : Prop :=
  p < q ∧ q ≤ f.length ∧ vld N c (f.drop q) = true ∧ evS v (f.drop p) = x :: evS v (f.drop q)
theorem EvR.two {N c p q r : Nat} {v : Nat → Bool} {f : List Int} {x y z : Bool} {o : Int} (hd : f.drop p = o :: f.drop (p + 1)) (h : EvR N v f (p + 1) (c + 1) x q) (k : EvR N v f q c y r) (hs : ∀ S, stp v o (x :: y :: S) = z :: S) : EvR N v f p c z r := by
  obtain ⟨h1, h2, h3, h4⟩ := h
  obtain ⟨k1, k2, k3, k4⟩ := k
  refine ⟨by omega, k2, k3, ?_⟩
  rw [hd, evS_cons, h4, k4, hs]
def EvP (N : Nat) (v : Nat → Bool) (f : List Int) (p c : Nat) (w : World) (e : Ending) (W : World) : Prop := ∃ (x : Bool) (q : Nat), e = .returned (.tuple #[.bool x, .int .i64 (q : Nat)]) ∧ EvR N v f p c x q ∧ w = W
end Go.Proofs.YtehadoecnmfeoaaGreat
/- A formula's value as the elder program has it: walk. -/
namespace Go.Proofs.YtehadoecnmfeoaaGreat
open Go.RowKit
set_option linter.unusedVariables false
set_option linter.unusedSimpArgs false
end Go.Proofs.YtehadoecnmfeoaaGreat
/- Names and valid formulas, as the elder program has them: walks. -/
namespace Go.Proofs.YtehadoecnmfeoaaGreat
open Go.RowKit
set_option linter.unusedVariables false
set_option linter.unusedSimpArgs false
end Go.Proofs.YtehadoecnmfeoaaGreat
/- The end of a term, as the elder program has it: walk. -/
namespace Go.Proofs.YtehadoecnmfeoaaGreat
open Go.RowKit
set_option linter.unusedVariables false
set_option linter.unusedSimpArgs false
/-- How many numbers of l belong to its first c terms. -/
def endN (N : Nat) : Nat → List Int → Option Nat
  | 0, _ => some 0
  | _ + 1, [] => none
  | c + 1, o :: r => if -6 ≤ o ∧ o < N then (endN N (c + arO o) r).map (· + 1) else none
def endR (p : Nat) : Option Nat → Int
  | none => -1
  | some q => (p + q : Nat)
end Go.Proofs.YtehadoecnmfeoaaGreat
/- CheckModel as the elder program has it: walk. -/
namespace Go.Proofs.YtehadoecnmfeoaaGreat
open Go.RowKit
set_option linter.unusedVariables false
set_option linter.unusedSimpArgs false
end Go.Proofs.YtehadoecnmfeoaaGreat
/- CheckFormula: walks. -/
namespace Go.Proofs.YtehadoecnmfeoaaGreat
open Go.RowKit
set_option linter.unusedVariables false
set_option linter.unusedSimpArgs false
set_option maxRecDepth 100000 in
set_option maxHeartbeats 2000000 in
theorem CheckFormula_any (m : Mo) (f : List Int) (ov rv fv : Value) (w : World) (hs : SizedM m) (hl : f.length ≤ maxLen) (h : MoAt w w.heap.size ov rv m) (hf : Ints w w.heap.size fv f) :
    Calls Tryz.prog 150 #[.agg #[ov, rv], fv] w fun e w' => e = .returned (.int .i64 (m.errF [f])) ∧ Below w.heap.size w w' := by
  obtain ⟨A, cap, hov⟩ := Sl.form h.o
  obtain ⟨Ar, capr, hrv⟩ := h.r.form
  obtain ⟨Al, capl, hlv⟩ := Sl.form hf
  have H := hide h
  have HF := hide hf
  have HS := hide hs
  subst hov hrv hlv
  clear h hf hs
  go_enter Tryz.func150, Tryz.ntmps150
  go_upto_region 1 with (fail)
  generalize hw0 : World.alloc _ _ = w0
  obtain ⟨hb0, hB0, hs0⟩ := alloc1 hw0
  clear hw0
  have HB0 := hide hB0
  have c0 := cellOf hb0 0
  have c1 := cellOf hb0 1
  have hB2 : Below w.heap.size w (w0.alloc (.cells #[.slice Al f.length capl] 46 (0, 0))) := Below.allocT hB0 (Nat.le_refl _) _
  have hck := check_any m [f] (.slice A m.opts.length cap) (.slice Ar m.rules.length capr) (.slice (some ⟨w0.heap.size, 0, none⟩) 1 1) _ HS.out (sized_one hl) (H.out.up hB2) (forms_one (heap_new _ _ _ rfl) (by simp) (HF.out.up hB2))
  have HCK := hide hck
  have HB2 := hide hB2
  clear hb0 hB0 hs0 hck hB2
  go_wp2_with (go_at_call 104; refine HCK.out.mono ?_; rintro e w1 ⟨rfl, hB1⟩)
  go_ret
  exact ⟨rfl, Below.to HB2.out hB1 (Nat.le_refl _)⟩
end Go.Proofs.YtehadoecnmfeoaaGreat
/- Holds and Buildable as the elder program has them: walks. -/
namespace Go.Proofs.YtehadoecnmfeoaaGreat
open Go.RowKit
set_option linter.unusedVariables false
set_option linter.unusedSimpArgs false
/-- What Holds returns. -/
def holE (m : Mo) (f : List Int) (vs : List Bool) : Int := if m.errF [f] ≠ 0 then m.errF [f] else if vs.length ≠ m.opts.length then 1 else 0
def holB (m : Mo) (f : List Int) (vs : List Bool) : Bool := if holE m f vs = 0 then evF1 (vf vs) f else false
theorem hol_err {m : Mo} {f : List Int} {vs : List Bool} (h : m.errF [f] ≠ 0) : holE m f vs = m.errF [f] ∧ holB m f vs = false := by
  have h1 : holE m f vs = m.errF [f] := by unfold holE; rw [if_pos h]
  exact ⟨h1, by unfold holB; rw [h1, if_neg h]⟩
theorem hol_arg {m : Mo} {f : List Int} {vs : List Bool} (h : m.errF [f] = 0) (h2 : vs.length ≠ m.opts.length) : holE m f vs = 1 ∧ holB m f vs = false := by
  have h1 : holE m f vs = 1 := by unfold holE; rw [if_neg (by simp [h]), if_pos h2]
  exact ⟨h1, by unfold holB; rw [h1, if_neg (by omega)]⟩
theorem hol_ok {m : Mo} {f : List Int} {vs : List Bool} (h : m.errF [f] = 0) (h2 : vs.length = m.opts.length) : holE m f vs = 0 ∧ holB m f vs = evF1 (vf vs) f := by
  have h1 : holE m f vs = 0 := by unfold holE; rw [if_neg (by simp [h]), if_neg (by simp [h2])]
  exact ⟨h1, by unfold holB; rw [if_pos h1]⟩
/-- The first rule that does not hold. -/
def fstR (vs : List Bool) (rules : List (List Int)) : Int := idxI (fun f => !evF1 (vf vs) f) rules
end Go.Proofs.YtehadoecnmfeoaaGreat
/- Buildable as the elder program has it: walk. -/
namespace Go.Proofs.YtehadoecnmfeoaaGreat
open Go.RowKit
set_option linter.unusedVariables false
set_option linter.unusedSimpArgs false
/-- What Buildable returns. -/
def buiE (m : Mo) (vs : List Bool) : Int := if m.err ≠ 0 then m.err else if vs.length ≠ m.opts.length then 1 else 0
def buiR (m : Mo) (vs : List Bool) : Int := if buiE m vs = 0 then fstR vs m.rules else 0
def buiB (m : Mo) (vs : List Bool) : Bool := if buiE m vs = 0 then decide (fstR vs m.rules < 0) else false
end Go.Proofs.YtehadoecnmfeoaaGreat
/- A stack of Bools. -/
namespace Go.Proofs.YtehadoecnmfeoaaGreat
open Go.RowKit
set_option linter.unusedVariables false
set_option linter.unusedSimpArgs false
/-- The slice is a stack of its own above block B. -/
def BStk (B : Nat) (w : World) (sv : Value) (S : List Bool) : Prop := w.ownsRow B 4 1 sv S.length (S.map Value.bool)
theorem BStk.below {B : Nat} {w w' : World} {sv : Value} {S : List Bool} (h : BStk B w sv S) (hb : Below w.heap.size w w') : BStk B w' sv S := owns_below h hb
theorem BStk.shape {B : Nat} {w : World} {sv : Value} {S : List Bool} (h : BStk B w sv S) : ∃ A cap, sv = .slice A S.length cap ∧ S.length ≤ cap ∧ cap ≤ maxLen := by
  rcases h.2 with ⟨h1, h2⟩ | ⟨g, cap, cur, h1, _, _, h2, h3, _⟩
  · exact ⟨none, 0, by rw [h1, h2], by omega, by unfold maxLen; omega⟩
  · exact ⟨_, cap, h1, h2, h3⟩
theorem BStk.cells {B : Nat} {w : World} {A : Option Addr} {n cap : Nat} {S : List Bool} (h : BStk B w (.slice A n cap) S) (hn : 0 < S.length) : ∃ g, A = some ⟨g, 0, none⟩ ∧ g < w.heap.size ∧ ∀ i, i < S.length → w.cell? ⟨g, i, none⟩ = some (.bool (S.getD i false)) := by
  obtain ⟨g, cap', hv, _, hl⟩ := World.ownsRow.form h hn
  injection hv with h1 h2 h3
  subst h1
  refine ⟨g, rfl, hl, fun i hi => ?_⟩
  have := World.ownsRow.cells (g := g) h rfl i (.bool (S.getD i false)) (by simp [hi])
  have he : (⟨g, 0, none⟩ : Addr).add i = ⟨g, i, none⟩ := by
    unfold Addr.add
    split
    · rename_i h0; rw [h0]
    · rw [Nat.zero_add]
  rwa [he] at this
theorem BStk.cut {B : Nat} {w : World} {A : Option Addr} {n cap : Nat} {S : List Bool} (h : BStk B w (.slice A n cap) S) {r : Nat} (hr : r ≤ S.length) : w.ownsRow B 4 1 (.slice A r cap) r ((S.take r).map Value.bool) := by
  obtain ⟨h1, ⟨h2, h3⟩ | ⟨g, cap', cur, h2, h3, h4, h5, h6, h7, h8⟩⟩ := h
  · injection h2 with e1 e2 e3
    subst e1 e3
    obtain rfl : r = 0 := by omega
    exact ⟨by simp, .inl ⟨rfl, rfl⟩⟩
  · injection h2 with e1 e2 e3
    subst e1 e3
    refine ⟨by simp; omega, .inr ⟨g, cap, cur, rfl, h3, h4, by omega, h6, h7, ?_⟩⟩
    rw [List.map_take, ← h8, List.take_take, Nat.mul_one, Nat.mul_one, Nat.min_eq_left hr]
theorem brev_top {S : List Bool} {p : Nat} (h : S.length = p + 1) : S.reverse = S.getD p false :: (S.take p).reverse := by
  have : S = S.take p ++ [S.getD p false] := by
    have h1 := List.take_succ_eq_append_getElem (l := S) (i := p) (by omega)
    rw [List.take_of_length_le (by omega)] at h1
    rw [List.getD_eq_getElem?_getD, List.getElem?_eq_getElem (by omega)]
    exact h1
  conv => lhs; rw [this]
  simp
theorem brev_top2 {S : List Bool} {p : Nat} (h : S.length = p + 2) : S.reverse = S.getD (p + 1) false :: S.getD p false :: (S.take p).reverse := by
  rw [brev_top h, brev_top (S := S.take (p + 1)) (p := p) (by simp; omega), List.take_take, Nat.min_eq_left (by omega)]
  congr 2
  simp [List.getD_eq_getElem?_getD]
end Go.Proofs.YtehadoecnmfeoaaGreat
/- Whether a formula holds: walk. -/
namespace Go.Proofs.YtehadoecnmfeoaaGreat
open Go.RowKit
set_option linter.unusedVariables false
set_option linter.unusedSimpArgs false
def BopP (v : Nat → Bool) (o : Int) (S : List Bool) (w : World) (x : Value) (wx : World) : Prop := ∃ y : Bool, x = .bool y ∧ Below w.heap.size w wx ∧ stp v o S.reverse = y :: S.reverse.drop (arO o)
set_option maxRecDepth 100000 in
set_option maxHeartbeats 4000000 in
theorem holds_any (f : List Int) (N : Nat) (vs : List Bool) (fv vv : Value) (w : World) (hv : validF N f = true) (hf : Ints w w.heap.size fv f) (hb : Bols w w.heap.size vv vs) (hN : vs.length = N) :
    Calls Tryz.prog 92 #[fv, vv] w fun e w' => e = .returned (.bool (evF1 (vf vs) f)) ∧ Below w.heap.size w w' := by
  obtain ⟨i0, hi0, hz0, hz1, hz2⟩ := info_parts infoBool
  obtain ⟨p1, p2⟩ := validF_pos hv
  obtain ⟨A, b, off, cap, rfl, hnc, hA, hc⟩ := hf
  obtain ⟨Av, bv, offv, capv, rfl, hncv, hAv, hcv⟩ := hb
  obtain ⟨rfl, hbb⟩ : A = some ⟨b, off, none⟩ ∧ b < w.heap.size := by
    rcases hA with h | h
    · exact h
    · omega
  have HC := hide hc
  have HCV := hide hcv
  have HAV := hide hAv
  have HV := hide hv
  have HN := hide hN
  clear hv hc hcv hA hAv hN
  have hlen : (f.length : Int) ≤ 100 := by omega
  have hnil : Hid (([] : List Bool).reverse = evS (vf vs) (f.drop f.length)) := by
    show ([] : List Bool).reverse = _
    rw [List.drop_length]; rfl
  go_enter Tryz.func92, Tryz.ntmps92
  go_wp2
  go_loopw [5, 6] (fun sv i wr => ∃ (j : Nat) (S : List Bool), j ≤ f.length ∧ i = .int .i64 ((j : Int) - 1) ∧ Hid (BStk w.heap.size wr sv S) ∧ Hid (Below w.heap.size w wr) ∧ Hid (S.reverse = evS (vf vs) (f.drop j))) (fun _ i _ => (intOf i + 1).toNat)
  case atStart => exact ⟨f.length, [], Nat.le_refl _, by go_num, World.ownsRow_nil w w.heap.size 4 1, Below.refl _ _, hnil⟩
  case round =>
    obtain ⟨j, S, hj, rfl, hS, hB, hev⟩ := hrel
    match j, hj, hev with
    | 0, _, hev =>
      have hS1 : S.length = 1 := by
        have h1 := hev.out
        rw [List.drop_zero, validF_one HV.out] at h1
        have := congrArg List.length h1
        simpa using this
      obtain ⟨A1, cap1, rfl, hcap1, hcap2⟩ := hS.out.shape
      obtain ⟨g, rfl, hg1, hg3⟩ := hS.out.cells (by omega)
      have x0 := hg3 0 (by omega)
      have hk0 : (0 : Int) < (S.length : Int) := by omega
      have hk1 : 0 < S.length := by omega
      have HS1 := hide hS1
      obtain ⟨x, hx⟩ : ∃ x, S.getD 0 false = x := ⟨_, rfl⟩
      rw [hx] at x0
      have HX := hide hx
      clear hg3 hS1 hx
      go_wp2_with fail
      go_ret
      refine ⟨ret_bool ?_, hB.out⟩
      have h1 := hev.out
      rw [List.drop_zero, validF_one HV.out, brev_top (p := 0) HS1.out, HX.out] at h1
      injection h1
    | q + 1, hj, hev =>
      have hq : ((q + 1 : Nat) : Int) - 1 = (q : Int) := by omega
      rw [hq]
      clear hq
      obtain ⟨o, ho⟩ : ∃ o, f.getD q 0 = o := ⟨_, rfl⟩
      obtain ⟨w1, _, hv2, hlo, hhi⟩ := vld_at (by have := HV.out; simp only [validF, Bool.and_eq_true] at this; exact this.1) (show q < f.length by omega)
      rw [ho] at hv2 hlo hhi
      have hSn : S.length = w1 + arO o := by
        have h1 := evS_len (vf vs) _ _ hv2
        rw [← hev.out, List.length_reverse] at h1
        exact h1
      have c0 : wr.cell? ⟨b, off + q, none⟩ = some (.int .i64 o) := by
        have h1 := HC.out q 0 (by omega) (by omega)
        rw [Nat.mul_one, Nat.add_zero, ho] at h1
        exact (hB.out.cell (p := ⟨b, off + q, none⟩) hbb).trans h1
      have hwr := hB.out.size
      have hbw : b < wr.heap.size := by omega
      obtain ⟨A1, cap1, rfl, hcap1, hcap2⟩ := hS.out.shape
      have hS100 : S.length ≤ 100 := by
        have h1 := vld_le _ _ hv2
        rw [List.length_drop] at h1
        omega
      have HOQ := hide ho
      have HSN := hide hSn
      have HV2 := hide hv2
      have gi0 : (0 : Int) ≤ (q : Int) := by omega
      have gi1 : (q : Int) < (f.length : Int) := by omega
      have gi2 : (0 : Int) ≤ (S.length : Int) := by omega
      have gi3 : (S.length : Int) ≤ 100 := by omega
      clear ho hSn hv2
      go_upto_block 2 with (fail)
      go_cut [7] from 12 to 81 (fun x wx => BopP (vf vs) o S wr x wx)
      case first =>
        by_cases o1 : o = -1
        · subst o1
          go_wp2_with fail
          go_meet
          exact ⟨true, rfl, Below.refl _ _, rfl⟩
        by_cases o2 : o = -2
        · subst o2
          go_wp2_with fail
          go_meet
          exact ⟨false, rfl, Below.refl _ _, rfl⟩
        by_cases o3 : o = -3
        · subst o3
          obtain ⟨p, hp⟩ : ∃ p, S.length = p + 1 := ⟨w1, HSN.out⟩
          obtain ⟨g, rfl, hg1, hg3⟩ := hS.out.cells (by omega)
          have x0 := hg3 p (by omega)
          obtain ⟨x, hx⟩ : ∃ x, S.getD p false = x := ⟨_, rfl⟩
          rw [hx] at x0
          have HX := hide hx
          have HP := hide hp
          have k0 : (1 : Int) ≤ (S.length : Int) := by omega
          have k1 : ((S.length : Int) - 1).toNat = p := by omega
          clear hx hg3 hp
          go_wp2_with fail
          go_meet
          exact ⟨!x, rfl, Below.refl _ _, by rw [brev_top HP.out, HX.out]; rfl⟩
        by_cases o456 : o = -4 ∨ o = -5 ∨ o = -6
        · obtain ⟨p, hp⟩ : ∃ p, S.length = p + 2 := ⟨w1, by
            have := HSN.out
            unfold arO at this
            rw [if_neg o3, if_pos o456] at this
            exact this⟩
          obtain ⟨g, rfl, hg1, hg3⟩ := hS.out.cells (by omega)
          have x0 := hg3 (p + 1) (by omega)
          have y0 := hg3 p (by omega)
          obtain ⟨x, hx⟩ : ∃ x, S.getD (p + 1) false = x := ⟨_, rfl⟩
          obtain ⟨y, hy⟩ : ∃ y, S.getD p false = y := ⟨_, rfl⟩
          rw [hx] at x0
          rw [hy] at y0
          have HXY := hide (And.intro hx hy)
          have HP := hide hp
          have k0 : (1 : Int) ≤ (S.length : Int) := by omega
          have k1 : ((S.length : Int) - 1).toNat = p + 1 := by omega
          have k2 : (2 : Int) ≤ (S.length : Int) := by omega
          have k3 : ((S.length : Int) - 2).toNat = p := by omega
          have k4 : IntKind.i64.wrap ((S.length : Int) - 1) = (S.length : Int) - 1 := IntWalk.i64_in _ (by omega)
          have k5 : IntKind.i64.wrap ((S.length : Int) - 2) = (S.length : Int) - 2 := IntWalk.i64_in _ (by omega)
          have k6 : (S.length : Int) - 1 < (S.length : Int) := by omega
          have k7 : (S.length : Int) - 2 < (S.length : Int) := by omega
          clear hx hy hg3 hp o1 o2 o3
          rcases o456 with rfl | rfl | rfl
          · have HT : Hid (stp (vf vs) (-4) S.reverse = (x && y) :: S.reverse.drop (arO (-4))) := by show _ = _; rw [brev_top2 HP.out, HXY.out.1, HXY.out.2]; rfl
            cases x
            · go_wp2_with fail
              go_meet
              exact ⟨_, rfl, Below.refl _ _, HT.out⟩
            · go_wp2_with fail
              go_meet
              exact ⟨_, rfl, Below.refl _ _, HT.out⟩
          · have HT : Hid (stp (vf vs) (-5) S.reverse = (x || y) :: S.reverse.drop (arO (-5))) := by show _ = _; rw [brev_top2 HP.out, HXY.out.1, HXY.out.2]; rfl
            cases x
            · go_wp2_with fail
              go_meet
              exact ⟨_, rfl, Below.refl _ _, HT.out⟩
            · go_wp2_with fail
              go_meet
              exact ⟨_, rfl, Below.refl _ _, HT.out⟩
          · have HT : Hid (stp (vf vs) (-6) S.reverse = (x == y) :: S.reverse.drop (arO (-6))) := by show _ = _; rw [brev_top2 HP.out, HXY.out.1, HXY.out.2]; rfl
            go_wp2_with fail
            refine wp_region_held_drew (S := (fun w' => Below wr.heap.size wr w')) (by kernel_rfl) ?_ (fun hHeld => ?_)
            · try dsimp only
              exact (by repeat (first | exact Below.refl _ _ | assumption | refine Below.drew ?_ | refine Below.drewN ?_ _ | refine Below.allocT ?_ (Nat.le_refl _) _ | refine Below.setCell ?_ (by simp <;> omega) _ | refine Below.to ?_ (by assumption) (Nat.le_refl _)))
            refine zT 0 rfl ?_
            refine zT 1 rfl ?_
            refine zT 2 rfl ?_
            refine zT 3 rfl ?_
            refine zT 4 rfl ?_
            refine zT 5 rfl ?_
            refine zT 6 rfl ?_
            refine zT 7 rfl ?_
            refine zT 8 rfl ?_
            refine zT 9 rfl ?_
            refine zT 10 rfl ?_
            refine zT 11 rfl ?_
            refine wpAnyH_done (by kernel_rfl) ?_ _
            go_wp2_with fail
            go_meet
            exact ⟨_, rfl, hHeld, HT.out⟩
        have o7 : 0 ≤ o := by omega
        have k1 : (o == -1) = false := by simpa using o1
        have k2 : (o == -2) = false := by simpa using o2
        have k3 : (o == -3) = false := by simpa using o3
        have k4 : (o == -4) = false := by simp; omega
        have k5 : (o == -5) = false := by simp; omega
        have k6 : (o == -6) = false := by simp; omega
        obtain ⟨t, rfl⟩ : ∃ x : Nat, o = (x : Int) := ⟨o.toNat, by omega⟩
        have ht : t < vs.length := by have := HN.out; omega
        obtain ⟨rfl, hbv⟩ : Av = some ⟨bv, offv, none⟩ ∧ bv < w.heap.size := by
          rcases HAV.out with h | h
          · exact h
          · omega
        obtain ⟨x, hx⟩ : ∃ x, vs.getD t false = x := ⟨_, rfl⟩
        have cv : wr.cell? ⟨bv, offv + t, none⟩ = some (.bool x) := by
          have h1 := HCV.out t 0 ht (by omega)
          rw [Nat.mul_one, Nat.add_zero] at h1
          rw [← hx]
          exact (hB.out.cell (p := ⟨bv, offv + t, none⟩) hbv).trans h1
        have j1 : (t : Int) < (vs.length : Int) := by omega
        have HT : Hid (stp (vf vs) (t : Int) S.reverse = x :: S.reverse.drop (arO (t : Int))) := by
          show _ = _
          unfold stp arO
          rw [if_neg (by omega), if_neg (by omega), if_neg (by omega), if_neg (by omega), if_neg (by omega), if_neg (by omega), if_neg (by omega), if_neg (by omega), Int.toNat_natCast, ← hx]
          rfl
        clear hx o1 o2 o3 o456
        go_wp2_with fail
        go_meet
        exact ⟨x, rfl, Below.refl _ _, HT.out⟩
      case rest =>
        obtain ⟨y, rfl, hBc, hstp⟩ := hcut
        obtain ⟨r, hrn⟩ : ∃ r, S.length = r + arO o := ⟨w1, HSN.out⟩
        have HSTP := hide hstp
        have hcut := (hS.out.below hBc).cut (r := r) (by omega)
        have HBC : Hid (Below w.heap.size w wc) := Below.to hB.out hBc (Nat.le_refl _)
        have d0 : wc.cell? ⟨b, off + q, none⟩ = some (.int .i64 o) := (hBc.cell (p := ⟨b, off + q, none⟩) hbw).trans c0
        have hbc : b < wc.heap.size := Nat.lt_of_lt_of_le hbw hBc.size
        have hr1 : (S.length : Int) - (arO o : Int) = (r : Int) := by omega
        have hr2 : (r : Int) ≤ 100 := by omega
        have hr3 : r ≤ cap1 := by omega
        have hr4 : (r : Int) ≤ (cap1 : Int) := by omega
        have hcap3 : (cap1 : Int) ≤ 9223372036854775807 := by have := hcap2; unfold maxLen at this; omega
        have hwc : w.heap.size ≤ wc.heap.size := HBC.out.size
        have HCUT := hide hcut
        have HRN := hide hrn
        have gi4 : (arO o : Int) ≤ 2 := by unfold arO; split; omega; split <;> omega
        have hlo1 : ∀ i, (Value.slice A1 r cap1).ownBlock = some i → w.heap.size ≤ i := fun i hi => (World.ownsRow.lt hcut i hi).1
        have HLO := hide hlo1
        clear hcut hrn c0 hstp hBc hlo1
        go_wp2_with (first | (go_at_call 164; refine (operands_any _ _).mono ?_; rintro e w2 ⟨rfl, rfl⟩) | (at_builtin; go_must (refine wpList_append_own_at _ rfl (.tmp 90) (.tmp 92) _ rfl w.heap.size 4 i0 _ 1 1 Tryz.underlying35 hi0 hz0 hz1 hz2 rfl (by omega) _ _ _ rfl (HCUT.out.alloc _) ⟨wc.heap.size, 0, none⟩ 1 1 [.bool y] rfl rfl (World.news_of_block (heap_alloc_new wc _)) (by simp [Value.oneCell']) (by unfold maxLen; omega) (by omega) (by simp; omega) ?_); intro v1 w1 hown1 hg1 _ hat1; have HOWN := hide hown1; have HG1 := hide hg1; have HAT := hide hat1; clear hown1 hg1 hat1))
        have hown2 : BStk w.heap.size w1 v1 (S.take r ++ [y]) := by
          have h1 := HOWN.out
          have h2 : (S.take r ++ [y]).length = r + 1 := by simp; omega
          unfold BStk
          rw [h2, List.map_append]
          exact h1
        have hkeep : Keeps (fun i => (Value.slice A1 r cap1).ownBlock = some i) wc w1 :=
          Keeps.trans ((Keeps.refl _ wc).alloc _) (Keeps.of_grown HG1.out (fun k hk => hk)) (fun _ _ h => h)
        have hb2 : Below w.heap.size w w1 := HBC.out.trans (hkeep.below (B := w.heap.size) hwc (fun k hk => HLO.out k hk))
        have HOW2 := hide hown2
        have HB2 := hide hb2
        clear hown2 hkeep hb2
        go_wp2_with fail
        go_roundw
        case rel =>
          refine ⟨q, S.take r ++ [y], by omega, by go_num, HOW2.out, HB2.out, ?_⟩
          have hq1 : q < f.length := by omega
          show (S.take r ++ [y]).reverse = _
          rw [drop_getD hq1, evS_cons, HOQ.out, ← hev.out, HSTP.out, List.reverse_append]
          show [y] ++ _ = _
          rw [List.singleton_append]
          congr 1
          rw [List.drop_reverse]
          have : S.length - arO o = r := by have := HRN.out; omega
          rw [this]
        case measure => simp [intOf]
end Go.Proofs.YtehadoecnmfeoaaGreat

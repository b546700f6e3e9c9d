/- Formulas: which are valid, what they say. Plain laws. -/
import Derived.Test.YtohofcmikfkilaaRows
import Derived.Test.YtohofcmikfkilaaP2
namespace Go.Proofs.Ytohofcmikfkilaa
set_option linter.unusedVariables false
/-- How many operands a number of a formula has. -/
def arO (o : Int) : Nat := if o = -3 then 1 else if o = -4 ∨ o = -5 ∨ o = -6 then 2 else 0
/-- Whether numbers are so many terms, one after the other. -/
def vld (N : Nat) : Nat → List Int → Bool
  | 0, [] => true
  | _ + 1, [] => false
  | 0, _ :: _ => false
  | w + 1, o :: r => decide (-6 ≤ o) && decide (o < N) && vld N (w + arO o) r
def validF (N : Nat) (f : List Int) : Bool := vld N 1 f && decide (f.length ≤ 100)
/-- What one number does to the values of the terms behind it. -/
def stp (v : Nat → Bool) (o : Int) (S : List Bool) : List Bool :=
  if o = -1 then true :: S
  else if o = -2 then false :: S
  else if o = -3 then (!S.headD false) :: S.drop 1
  else if o = -4 then (S.headD false && (S.drop 1).headD false) :: S.drop 2
  else if o = -5 then (S.headD false || (S.drop 1).headD false) :: S.drop 2
  else if o = -6 then (S.headD false == (S.drop 1).headD false) :: S.drop 2
  else v o.toNat :: S
def evS (v : Nat → Bool) (f : List Int) : List Bool := f.foldr (stp v) []
/-- Whether a formula holds. -/
def evF1 (v : Nat → Bool) (f : List Int) : Bool := (evS v f).headD false
theorem evS_cons (v : Nat → Bool) (o : Int) (r : List Int) : evS v (o :: r) = stp v o (evS v r) := rfl
theorem evS_len {N : Nat} (v : Nat → Bool) : ∀ (f : List Int) (w : Nat), vld N w f = true → (evS v f).length = w
  | [], 0, _ => rfl
  | [], w + 1, h => by simp [vld] at h
  | o :: r, 0, h => by simp [vld] at h
  | o :: r, w + 1, h => by
    simp only [vld, Bool.and_eq_true, decide_eq_true_eq] at h
    have ih := evS_len v r _ h.2
    rw [evS_cons]
    unfold stp arO at *
    repeat' split at ih
    all_goals (repeat' split)
    all_goals (simp only [List.length_cons, List.length_drop, ih]; try omega)
theorem vld_drop {N : Nat} : ∀ (f : List Int) (w : Nat), vld N w f = true → ∀ k, k ≤ f.length → ∃ w', vld N w' (f.drop k) = true
  | f, w, h, 0, _ => ⟨w, h⟩
  | [], w, h, k + 1, hk => by simp at hk
  | o :: r, 0, h, k + 1, _ => by simp [vld] at h
  | o :: r, w + 1, h, k + 1, hk => by
    simp only [vld, Bool.and_eq_true, decide_eq_true_eq] at h
    exact vld_drop r _ h.2 k (by simpa using hk)
theorem vld_le {N : Nat} : ∀ (f : List Int) (w : Nat), vld N w f = true → w ≤ f.length
  | [], 0, _ => Nat.le_refl _
  | [], w + 1, h => by simp [vld] at h
  | o :: r, 0, h => Nat.zero_le _
  | o :: r, w + 1, h => by
    simp only [vld, Bool.and_eq_true, decide_eq_true_eq] at h
    have := vld_le r _ h.2
    simp only [List.length_cons]; omega
/-- What is known of a number of a valid formula. -/
theorem vld_at {N : Nat} {f : List Int} {w k : Nat} (h : vld N w f = true) (hk : k < f.length) : ∃ w', vld N (w' + 1) (f.drop k) = true ∧ vld N (w' + arO (f.getD k 0)) (f.drop (k + 1)) = true ∧ -6 ≤ f.getD k 0 ∧ f.getD k 0 < N := by
  obtain ⟨w1, h1⟩ := vld_drop f w h k (by omega)
  have hd : f.drop k = f.getD k 0 :: f.drop (k + 1) := by
    rw [List.drop_eq_getElem_cons hk, List.getD_eq_getElem?_getD, List.getElem?_eq_getElem hk]; rfl
  rw [hd] at h1
  match w1, h1 with
  | 0, h1 => simp [vld] at h1
  | w1 + 1, h1 =>
    refine ⟨w1, by rw [hd]; exact h1, ?_⟩
    simp only [vld, Bool.and_eq_true, decide_eq_true_eq] at h1
    exact ⟨h1.2, h1.1.1, h1.1.2⟩
theorem drop_getD {f : List Int} {k : Nat} (hk : k < f.length) : f.drop k = f.getD k 0 :: f.drop (k + 1) := by
  rw [List.drop_eq_getElem_cons hk, List.getD_eq_getElem?_getD, List.getElem?_eq_getElem hk]; rfl
theorem validF_pos {N : Nat} {f : List Int} (h : validF N f = true) : 1 ≤ f.length ∧ f.length ≤ 100 := by
  simp only [validF, Bool.and_eq_true, decide_eq_true_eq] at h
  refine ⟨?_, h.2⟩
  match f, h.1 with
  | [], h => simp [vld] at h
  | o :: r, _ => simp
theorem validF_one {N : Nat} {f : List Int} (h : validF N f = true) (v : Nat → Bool) : evS v f = [evF1 v f] := by
  simp only [validF, Bool.and_eq_true, decide_eq_true_eq] at h
  have := evS_len v f 1 h.1
  unfold evF1
  match hs : evS v f, this with
  | [x], _ => rfl
/-- The variants of a model in which a list of formulas holds. -/
def allF (v : Nat → Bool) (l : List (List Int)) : Bool := l.all fun f => evF1 v f
end Go.Proofs.Ytohofcmikfkilaa

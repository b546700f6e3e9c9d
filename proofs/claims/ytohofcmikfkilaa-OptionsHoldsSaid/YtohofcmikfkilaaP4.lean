/- Names, and which models are valid. Plain laws. -/
import Derived.Test.YtohofcmikfkilaaRows
import Derived.Test.YtohofcmikfkilaaP3
namespace Go.Proofs.Ytohofcmikfkilaa
set_option linter.unusedVariables false
/-- Whether a byte may stand in a name. -/
def alN (c : UInt8) : Bool := (decide (97 ≤ c.toNat) && decide (c.toNat ≤ 122)) || (decide (48 ≤ c.toNat) && decide (c.toNat ≤ 57))
def smN (c : UInt8) : Bool := decide (97 ≤ c.toNat) && decide (c.toNat ≤ 122)
/-- How many bytes at the beginning may stand in a name. -/
def wordN : List UInt8 → Nat
  | [] => 0
  | c :: r => if alN c then wordN r + 1 else 0
theorem wordN_le : ∀ l, wordN l ≤ l.length
  | [] => Nat.le_refl _
  | c :: r => by
    have := wordN_le r
    simp only [wordN, List.length_cons]; split <;> omega
theorem wordN_at : ∀ (l : List UInt8) (k : Nat), k < l.length → (∀ j, j < k → alN (l.getD j 0) = true) → alN (l.getD k 0) = false → wordN l = k
  | [], k, h, _, _ => by simp at h
  | c :: r, 0, _, _, h => by
    simp only [List.getD_cons_zero] at h
    simp [wordN, h]
  | c :: r, k + 1, hk, h1, h2 => by
    have h3 := h1 0 (by omega)
    simp only [List.getD_cons_zero] at h3
    have h4 := wordN_at r k (by simpa using hk) (fun j hj => by have := h1 (j + 1) (by omega); simpa using this) (by simpa using h2)
    simp [wordN, h3, h4]
theorem wordN_all : ∀ (l : List UInt8), (∀ j, j < l.length → alN (l.getD j 0) = true) → wordN l = l.length
  | [], _ => rfl
  | c :: r, h => by
    have h3 := h 0 (by simp)
    simp only [List.getD_cons_zero] at h3
    have h4 := wordN_all r (fun j hj => by have := h (j + 1) (by simpa using hj); simpa using this)
    simp [wordN, h3, h4]
theorem wordN_full : ∀ (l : List UInt8), wordN l = l.length → ∀ j, j < l.length → alN (l.getD j 0) = true
  | [], _, j, hj => by simp at hj
  | c :: r, h, j, hj => by
    have hle := wordN_le r
    simp only [wordN, List.length_cons] at h
    split at h
    · rename_i hc
      match j, hj with
      | 0, _ => simpa using hc
      | j + 1, hj =>
        have := wordN_full r (by omega) j (by simpa using hj)
        simpa using this
    · omega
/-- Whether a text is a name. -/
def namedB (l : List UInt8) : Bool := decide (1 ≤ l.length) && decide (l.length ≤ 8) && smN (l.getD 0 0) && decide (l ≠ [121, 101, 115]) && decide (l ≠ [110, 111]) && decide (wordN l = l.length)
/-- Whether options are names, each another one. -/
def namesB : List (List UInt8) → List (List UInt8) → Bool
  | _, [] => true
  | seen, n :: r => namedB n && !seen.contains n && namesB (seen ++ [n]) r
structure Mo where
  opts : List ByteArray
  rules : List (List Int)
def Mo.names (m : Mo) : List (List UInt8) := m.opts.map fun s => s.data.toList
def Mo.err (m : Mo) : Int := if 40 < m.opts.length ∨ 60 < m.rules.length then 2 else if namesB [] m.names = false then 10 else if m.rules.all (validF m.opts.length) = false then 11 else 0
/-- The error of a model and formulas. -/
def Mo.errF (m : Mo) (l : List (List Int)) : Int := if m.err ≠ 0 then m.err else if l.all (validF m.opts.length) = false then 11 else 0
theorem namesB_at : ∀ (seen l : List (List UInt8)) (k : Nat), k < l.length → (∀ j, j < k → namedB (l.getD j []) = true ∧ (seen ++ l.take j).contains (l.getD j []) = false) → (namedB (l.getD k []) && !(seen ++ l.take k).contains (l.getD k [])) = false → namesB seen l = false
  | seen, [], k, h, _, _ => by simp at h
  | seen, n :: r, 0, _, _, h => by
    simp only [List.getD_cons_zero, List.take_zero, List.append_nil] at h
    simp only [namesB, h, Bool.false_and]
  | seen, n :: r, k + 1, hk, h1, h2 => by
    have h3 := h1 0 (by omega)
    simp only [List.getD_cons_zero, List.take_zero, List.append_nil] at h3
    have h4 := namesB_at (seen ++ [n]) r k (by simpa using hk) (fun j hj => by
      have := h1 (j + 1) (by omega)
      simpa using this) (by simpa using h2)
    simp only [namesB, h4, Bool.and_false]
theorem namesB_all : ∀ (seen l : List (List UInt8)), (∀ j, j < l.length → namedB (l.getD j []) = true ∧ (seen ++ l.take j).contains (l.getD j []) = false) → namesB seen l = true
  | seen, [], _ => rfl
  | seen, n :: r, h1 => by
    have h3 := h1 0 (by simp)
    simp only [List.getD_cons_zero, List.take_zero, List.append_nil] at h3
    have h4 := namesB_all (seen ++ [n]) r (fun j hj => by
      have := h1 (j + 1) (by simpa using hj)
      simpa using this)
    simp only [namesB, h3.1, h3.2, h4, Bool.not_false, Bool.and_self]
theorem Mo.err_cases (m : Mo) : m.err = 0 ∨ m.err = 2 ∨ m.err = 10 ∨ m.err = 11 := by
  unfold Mo.err; split; simp; split; simp; split <;> simp
theorem Mo.errF_cases (m : Mo) (l : List (List Int)) : m.errF l = 0 ∨ m.errF l = 2 ∨ m.errF l = 10 ∨ m.errF l = 11 := by
  have := m.err_cases
  unfold Mo.errF; split
  · omega
  · split <;> simp
theorem Mo.ok {m : Mo} (h : m.err = 0) : m.opts.length ≤ 40 ∧ m.rules.length ≤ 60 ∧ namesB [] m.names = true ∧ ∀ f ∈ m.rules, validF m.opts.length f = true := by
  unfold Mo.err at h
  split at h
  · simp at h
  · rename_i h1
    split at h
    · simp at h
    · rename_i h2
      split at h
      · simp at h
      · rename_i h3
        exact ⟨by omega, by omega, by simpa using h2, List.all_eq_true.1 (by simpa using h3)⟩
theorem Mo.okF {m : Mo} {l : List (List Int)} (h : m.errF l = 0) : m.err = 0 ∧ ∀ f ∈ l, validF m.opts.length f = true := by
  unfold Mo.errF at h
  split at h
  · rename_i h1; exact absurd h h1
  · rename_i h1
    split at h
    · simp at h
    · rename_i h3
      exact ⟨by omega, List.all_eq_true.1 (by simpa using h3)⟩
end Go.Proofs.Ytohofcmikfkilaa

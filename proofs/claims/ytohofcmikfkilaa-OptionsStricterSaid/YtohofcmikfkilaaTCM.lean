/- Group M of this claim's texts: walks and plain laws. -/
import Derived.Test.YtohofcmikfkilaaRows
import Derived.Test.YtohofcmikfkilaaTCH
import Derived.Test.YtohofcmikfkilaaTCL
import Derived.Test.YtohofcmikfkilaaTCG
import Derived.Test.YtohofcmikfkilaaTCJ
/- Two formulas joined, and the same knots in general: walks. -/
namespace Go.Proofs.Ytohofcmikfkilaa
open Go.RowKit
set_option linter.unusedVariables false
set_option linter.unusedSimpArgs false
end Go.Proofs.Ytohofcmikfkilaa
/- A diagram that build has made: each variant leads to the formula's value in it. Plain laws. -/
namespace Go.Proofs.Ytohofcmikfkilaa
set_option linter.unusedVariables false
theorem getD_app {K L : List Kt} {i : Nat} (h : i < K.length) : (K ++ L).getD i Kt.z = K.getD i Kt.z := by
  simp [List.getD_eq_getElem?_getD, List.getElem?_append_left h]
def GoodK (N : Nat) (K : List Kt) : Prop := ∀ i, i < K.length → okB N K i = true
/-- A place that may stand below a choice of option t - 1. -/
def RefOk (K : List Kt) (t : Nat) (r : Int) : Prop := r = -1 ∨ r = -2 ∨ ∃ i : Nat, r = i ∧ i < K.length ∧ (t : Int) ≤ (K.getD i Kt.z).o
theorem RefOk.app {K L : List Kt} {t : Nat} {r : Int} (h : RefOk K t r) : RefOk (K ++ L) t r := by
  rcases h with h | h | ⟨i, h1, h2, h3⟩
  · exact .inl h
  · exact .inr (.inl h)
  · exact .inr (.inr ⟨i, h1, by simp; omega, by rw [getD_app h2]; exact h3⟩)
theorem RefOk.lt {K : List Kt} {t : Nat} {r : Int} (h : RefOk K t r) : -2 ≤ r ∧ r < K.length := by
  rcases h with h | h | ⟨i, h1, h2, h3⟩ <;> omega
theorem RefOk.go {K : List Kt} {t : Nat} {r : Int} (h : RefOk K (t + 1) r) : goB K K.length t r = true := by
  unfold goB
  rcases h with h | h | ⟨i, h1, h2, h3⟩
  · simp [h]
  · simp [h]
  · subst h1
    have e1 : decide ((0 : Int) ≤ (i : Int)) = true := decide_eq_true (by omega)
    have e2 : decide ((i : Int) < (K.length : Int)) = true := decide_eq_true (by omega)
    have e3 : decide ((t : Int) < (K.getD i Kt.z).o) = true := decide_eq_true (by omega)
    rw [Int.toNat_natCast, e1, e2, e3]
    simp
structure BldOk (N : Nat) (g : List Bool → Bool) (d : Nat) (l : List Bool) (K K' : List Kt) (r : Int) : Prop where
  ext : ∃ L, K' = K ++ L
  good : GoodK N K'
  ref : RefOk K' l.length r
  val : ∀ y : List Bool, y.length = d → flw K' (l ++ y) K'.length r = if g (l ++ y) then -2 else -1
end Go.Proofs.Ytohofcmikfkilaa
/- Formulas joined by an operator; what two diagrams say: plain laws. -/
namespace Go.Proofs.Ytohofcmikfkilaa
set_option linter.unusedVariables false
end Go.Proofs.Ytohofcmikfkilaa

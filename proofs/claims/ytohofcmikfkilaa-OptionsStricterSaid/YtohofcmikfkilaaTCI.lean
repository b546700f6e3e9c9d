/- Group I of this claim's texts: walks and plain laws. -/
import Derived.Test.YtohofcmikfkilaaRows
import Derived.Test.YtohofcmikfkilaaTCE
import Derived.Test.YtohofcmikfkilaaTCH
import Derived.Deep.RegionHeld3
import Derived.Deep.DrawnRows
/- The first variant of the greatest sum, found by going through all. Plain laws. -/
namespace Go.Proofs.Ytohofcmikfkilaa
set_option linter.unusedVariables false
/-- What has been found of the greatest sum when k variants have been gone through. -/
def FirstMax (vals : Nat → Int) (k : Nat) (best at_ : Int) : Prop :=
  (k = 0 ∧ best = 0 ∧ at_ = -1) ∨ ∃ a : Nat, at_ = a ∧ a < k ∧ vals a = best ∧ (∀ j, j < k → vals j ≤ best) ∧ ∀ j, j < a → vals j < best
theorem FirstMax.start (vals : Nat → Int) : FirstMax vals 0 0 (-1) := .inl ⟨rfl, rfl, rfl⟩
theorem FirstMax.take {vals : Nat → Int} {k : Nat} {best at_ : Int} (h : FirstMax vals k best at_) (hb : at_ < 0 ∨ best < vals k) : FirstMax vals (k + 1) (vals k) k := by
  have hlt : ∀ j, j < k → vals j < vals k := fun j hj => by
    rcases h with ⟨h1, h2, h3⟩ | ⟨a, h1, h2, h3, h4, h5⟩
    · omega
    · rcases hb with hb | hb
      · omega
      · have := h4 j hj
        omega
  refine .inr ⟨k, rfl, by omega, rfl, fun j hj => ?_, hlt⟩
  by_cases hjk : j = k
  · rw [hjk]; exact Int.le_refl _
  · have := hlt j (by omega)
    omega
theorem FirstMax.keep {vals : Nat → Int} {k : Nat} {best at_ : Int} (h : FirstMax vals k best at_) (h0 : 0 ≤ at_) (hb : vals k ≤ best) : FirstMax vals (k + 1) best at_ := by
  rcases h with ⟨h1, h2, h3⟩ | ⟨a, h1, h2, h3, h4, h5⟩
  · omega
  · exact .inr ⟨a, h1, by omega, h3, fun j hj => by
      by_cases hjk : j = k
      · subst hjk; exact hb
      · exact h4 j (by omega), h5⟩
end Go.Proofs.Ytohofcmikfkilaa
/- The errors of a model and a list of formulas, as the elder program has them: walk. -/
namespace Go.Proofs.Ytohofcmikfkilaa
open Go.RowKit
set_option linter.unusedVariables false
set_option linter.unusedSimpArgs false
/-- The error of a model and a list of formulas. -/
def frmE (m : Mo) (l : List (List Int)) : Int := if m.err ≠ 0 then m.err else if 200 < l.length then 2 else if l.all (validF m.opts.length) = false then 11 else 0
end Go.Proofs.Ytohofcmikfkilaa
/- The greatest sum as the elder program has it: walk. -/
namespace Go.Proofs.Ytohofcmikfkilaa
open Go.RowKit
set_option linter.unusedVariables false
set_option linter.unusedSimpArgs false
/-- Whether weights are in their range. -/
def wOk (ws : List Int) : Bool := ws.all fun x => decide (-1000000 ≤ x) && decide (x ≤ 1000000)
/-- What Most returns. -/
def mosE (m : Mo) (l : List (List Int)) (ws : List Int) : Int := if frmE m l ≠ 0 then frmE m l else if ws.length ≠ l.length ∨ wOk ws = false then 1 else if allM m = [] then 12 else 0
def mosN (m : Mo) (l : List (List Int)) (ws : List Int) : Int := if mosE m l ws = 0 then bestF m l ws else 0
def mosX (m : Mo) (l : List (List Int)) (ws : List Int) : List Bool := if mosE m l ws = 0 then ((exts m.opts.length []).find? (fun y => valF m l ws y == bestF m l ws)).getD [] else []
theorem mos_bad {m : Mo} {l : List (List Int)} {ws : List Int} {z : Int} (h : mosE m l ws = z) (hz : z ≠ 0) : mosN m l ws = 0 ∧ mosX m l ws = [] := by
  unfold mosN mosX
  rw [h, if_neg hz, if_neg hz]
  exact ⟨rfl, rfl⟩
def MosP (n : Int) (x : List Bool) (er : Int) (w : World) (e : Ending) (w' : World) : Prop := ∃ v, e = .returned (.tuple #[.int .i64 n, v, .int .i64 er]) ∧ Bols w' w'.heap.size v x ∧ Below w.heap.size w w'
theorem MosP.bad {m : Mo} {l : List (List Int)} {ws : List Int} {z : Int} {w w' : World} (h : mosE m l ws = z) (hz : z ≠ 0) (hb : Below w.heap.size w w') : MosP (mosN m l ws) (mosX m l ws) (mosE m l ws) w (.returned (.tuple #[.int .i64 0, .slice none 0 0, .int .i64 z])) w' := by
  obtain ⟨h1, h2⟩ := mos_bad h hz
  rw [h1, h2, h]
  exact ⟨_, rfl, Sl.nil _ _ _ _, hb⟩
end Go.Proofs.Ytohofcmikfkilaa
/- The greatest sum, with its errors: walk. -/
namespace Go.Proofs.Ytohofcmikfkilaa
open Go.RowKit
set_option linter.unusedVariables false
set_option linter.unusedSimpArgs false
end Go.Proofs.Ytohofcmikfkilaa

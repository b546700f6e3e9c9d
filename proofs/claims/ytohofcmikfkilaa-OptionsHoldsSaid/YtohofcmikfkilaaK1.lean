/- Small laws of my own on slices in memory, for all the walks of this seat: no condition. -/
import Derived.Test.YtohofcmikfkilaaK0
import Derived.Deep.Slices
import Derived.Deep.AppendLies
namespace Go.Proofs.Ytohofcmikfkilaa
open Go.RowKit

/-- The slice value v has n elements of sz cells each, and cell j of element i holds f i j; they lie below block B. -/
def Sl (w : World) (B sz : Nat) (v : Value) (n : Nat) (f : Nat → Nat → Value) : Prop :=
  ∃ (A : Option Addr) (b off cap : Nat), v = .slice A n cap ∧ n ≤ cap ∧ (A = some ⟨b, off, none⟩ ∧ b < B ∨ n = 0) ∧ ∀ i j, i < n → j < sz → w.cell? ⟨b, off + (i * sz + j), none⟩ = some (f i j)

theorem Sl.keep {w w' : World} {B sz n : Nat} {v : Value} {f : Nat → Nat → Value} (h : Sl w B sz v n f) (hk : ∀ b o, b < B → w'.cell? ⟨b, o, none⟩ = w.cell? ⟨b, o, none⟩) : Sl w' B sz v n f := by
  obtain ⟨A, b, off, cap, hv, hn, hA, hc⟩ := h
  refine ⟨A, b, off, cap, hv, hn, hA, fun i j hi hj => ?_⟩
  rcases hA with ⟨_, hb⟩ | h0
  · rw [hk _ _ hb]; exact hc i j hi hj
  · omega
theorem Sl.more {w : World} {B B' sz n : Nat} {v : Value} {f : Nat → Nat → Value} (h : Sl w B sz v n f) (hB : B ≤ B') : Sl w B' sz v n f := by
  obtain ⟨A, b, off, cap, hv, hn, hA, hc⟩ := h
  exact ⟨A, b, off, cap, hv, hn, hA.imp (fun ⟨a, c⟩ => ⟨a, by omega⟩) id, hc⟩
theorem Sl.below {w w' : World} {B sz n : Nat} {v : Value} {f : Nat → Nat → Value} (h : Sl w B sz v n f) (hb : Below B w w') : Sl w' B sz v n f :=
  h.keep fun b o hlt => hb.cell (p := ⟨b, o, none⟩) hlt
/-- Behind a call that changes nothing below its own heap. -/
theorem Sl.to {w w' : World} {B sz n : Nat} {v : Value} {f : Nat → Nat → Value} (h : Sl w B sz v n f) (hb : Below w.heap.size w w') (hB : B ≤ w.heap.size) : Sl w' B sz v n f := h.below (hb.mono hB)
theorem Sl.up {w w' : World} {sz n : Nat} {v : Value} {f : Nat → Nat → Value} (h : Sl w w.heap.size sz v n f) (hb : Below w.heap.size w w') : Sl w' w'.heap.size sz v n f := (h.below hb).more hb.size
theorem Sl.form {w : World} {B sz n : Nat} {v : Value} {f : Nat → Nat → Value} (h : Sl w B sz v n f) : ∃ A cap, v = .slice A n cap := by
  obtain ⟨A, b, off, cap, hv, _⟩ := h
  exact ⟨A, cap, hv⟩
theorem Sl.nil (w : World) (B sz : Nat) (f : Nat → Nat → Value) : Sl w B sz (.slice none 0 0) 0 f :=
  ⟨none, 0, 0, 0, rfl, Nat.le_refl _, .inr rfl, fun i j h => absurd h (by omega)⟩
theorem Sl.congr {w : World} {B sz n : Nat} {v : Value} {f g : Nat → Nat → Value} (h : Sl w B sz v n f) (hfg : ∀ i j, i < n → j < sz → f i j = g i j) : Sl w B sz v n g := by
  obtain ⟨A, b, off, cap, hv, hn, hA, hc⟩ := h
  exact ⟨A, b, off, cap, hv, hn, hA, fun i j hi hj => by rw [hc i j hi hj, hfg i j hi hj]⟩

/-- The place of the first element of a list of which p holds, and -1 if there is none. -/
def idxI {α : Type} (p : α → Bool) : List α → Int
  | [] => -1
  | a :: r => if p a then 0 else if idxI p r < 0 then -1 else idxI p r + 1
theorem idxI_at {α : Type} (p : α → Bool) (z : α) : ∀ (l : List α) (k : Nat), (∀ j, j < k → p (l.getD j z) = false) → k < l.length → p (l.getD k z) = true → idxI p l = k
  | [], k, _, h, _ => by simp at h
  | a :: r, 0, _, _, h => by
    have h' : p a = true := by simpa using h
    simp [idxI, h']
  | a :: r, k + 1, h, hk, hp => by
    have h0 : p a = false := by simpa using h 0 (by omega)
    have := idxI_at p z r k (fun j hj => by have := h (j + 1) (by omega); simpa using this) (by simpa using hk) (by simpa using hp)
    simp only [idxI, h0, this]
    simp
    omega
theorem idxI_none {α : Type} (p : α → Bool) (z : α) : ∀ (l : List α), (∀ j, j < l.length → p (l.getD j z) = false) → idxI p l = -1
  | [], _ => rfl
  | a :: r, h => by
    have h0 : p a = false := by simpa using h 0 (by simp)
    have := idxI_none p z r (fun j hj => by have := h (j + 1) (by simpa using hj); simpa using this)
    simp [idxI, h0, this]
theorem idxI_any {α : Type} (p : α → Bool) : ∀ (l : List α), decide (0 ≤ idxI p l) = l.any p
  | [] => by simp [idxI]
  | a :: r => by
    have ih := idxI_any p r
    cases ha : p a
    · simp only [idxI, ha, List.any_cons, Bool.false_or]
      rw [← ih]
      simp only [Bool.false_eq_true, if_false]
      split
      · rename_i hlt
        simp
        omega
      · rename_i hge
        rw [decide_eq_decide]
        omega
    · simp [idxI, ha]
theorem idxI_lo {α : Type} (p : α → Bool) : ∀ (l : List α), -1 ≤ idxI p l
  | [] => by simp [idxI]
  | a :: r => by
    have ih := idxI_lo p r
    simp only [idxI]
    split
    · omega
    · split <;> omega
theorem idxI_hi {α : Type} (p : α → Bool) : ∀ (l : List α), idxI p l ≤ l.length
  | [] => by simp [idxI]
  | a :: r => by
    have ih := idxI_hi p r
    simp only [idxI, List.length_cons]
    split
    · omega
    · split <;> omega

end Go.Proofs.Ytohofcmikfkilaa

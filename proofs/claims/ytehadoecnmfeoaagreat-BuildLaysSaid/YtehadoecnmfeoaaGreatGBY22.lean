/- Part 22 of this claim's texts: walks and plain laws. -/
import Derived.Test.YtehadoecnmfeoaaGreatRows
import Derived.Test.YtehadoecnmfeoaaGreatGBY21
import Derived.Test.YtehadoecnmfeoaaGreatGBY11
import Derived.WalkSpells
import Derived.Lib.SliceRun
import Derived.Deep.DeepMust
import Derived.Deep.RegionHeld3
import Derived.Deep.DrawnRows
/- Variants compared, and the earliest one kept: walks. -/
namespace Go.Proofs.YtehadoecnmfeoaaGreat
open Go.RowKit
set_option linter.unusedVariables false
set_option linter.unusedSimpArgs false
/-- Which of two variants comes first. -/
def cmpI : List Bool → List Bool → Int
  | a :: x, b :: y => if a = b then cmpI x y else if b then -1 else 1
  | _, _ => 0
theorem cmpI_bef : ∀ x y, (cmpI x y < 0 ↔ befB x y = true) ∧ -1 ≤ cmpI x y ∧ cmpI x y ≤ 1
  | [], _ => by simp [cmpI, befB]
  | _ :: _, [] => by simp [cmpI, befB]
  | a :: x, b :: y => by
    have ih := cmpI_bef x y
    unfold cmpI befB
    by_cases h : a = b
    · rw [if_pos h, if_pos h]; exact ih
    · rw [if_neg h, if_neg h]
      cases b <;> simp
theorem cmpI_at : ∀ (x y : List Bool) (k : Nat), k < x.length → k < y.length → (∀ j, j < k → x.getD j false = y.getD j false) → x.getD k false ≠ y.getD k false → cmpI x y = if y.getD k false then -1 else 1
  | [], _, k, h, _, _, _ => by simp at h
  | _ :: _, [], k, _, h, _, _ => by simp at h
  | a :: x, b :: y, 0, _, _, _, h => by
    simp only [List.getD_cons_zero] at h ⊢
    unfold cmpI
    rw [if_neg h]
  | a :: x, b :: y, k + 1, h1, h2, hj, h => by
    have h0 := hj 0 (by omega)
    simp only [List.getD_cons_zero] at h0
    simp only [List.getD_cons_succ] at h ⊢
    unfold cmpI
    rw [if_pos h0]
    exact cmpI_at x y k (by simpa using h1) (by simpa using h2) (fun j hj2 => by have := hj (j + 1) (by omega); simpa using this) h
theorem cmpI_none : ∀ (x y : List Bool), (∀ j, j < x.length → j < y.length → x.getD j false = y.getD j false) → cmpI x y = 0
  | [], _, _ => rfl
  | _ :: _, [], _ => rfl
  | a :: x, b :: y, hj => by
    have h0 := hj 0 (by simp) (by simp)
    simp only [List.getD_cons_zero] at h0
    unfold cmpI
    rw [if_pos h0]
    exact cmpI_none x y fun j h1 h2 => by have := hj (j + 1) (by simpa using h1) (by simpa using h2); simpa using this
set_option maxRecDepth 100000 in
theorem cmp1_any (a b : Bool) (w : World) : Calls Tryz.prog 232 #[.bool a, .bool b] w fun e w' => e = .returned (.int .i64 (if a = b then 0 else if b then -1 else 1)) ∧ w = w' := by
  cases a <;> cases b
  all_goals
    go_enter Tryz.func232, Tryz.ntmps232
    go_wp2_with fail
    go_ret
    exact ⟨rfl, rfl⟩
theorem Bols.at7 {w : World} {B : Nat} {A : Option Addr} {m q : Nat} {S : List Bool} (h : Bols w B (.slice A m q) S) {k : Nat} (hk : k < S.length) : ∃ b off x, Hid (S.getD k false = x) ∧ A = some ⟨b, off, none⟩ ∧ b < B ∧ S.length ≤ q ∧ w.cell? ⟨b, off + k, none⟩ = some (.bool x) := by
  obtain ⟨h1, h2, b, off, h3, h4, h5⟩ := sl_at h hk
  have h6 := h5 0 (by omega)
  rw [Nat.mul_one, Nat.add_zero] at h6
  exact ⟨b, off, _, rfl, h3, h4, by omega, h6⟩
set_option maxRecDepth 100000 in
set_option maxHeartbeats 2000000 in
theorem cmpf_any (x y : List Bool) (Ax Ay : Option Addr) (qx qy : Nat) (w : World) (hl : x.length = y.length) (h40 : x.length ≤ 1000) (hx : Bols w w.heap.size (.slice Ax x.length qx) x) (hy : Bols w w.heap.size (.slice Ay y.length qy) y) :
    Calls Tryz.prog 231 #[.slice Ax x.length qx, .slice Ay y.length qy, .func (.func 232) #[] #[]] w fun e w' => e = .returned (.int .i64 (cmpI x y)) ∧ w = w' := by
  have HX := hide hx
  have HY := hide hy
  obtain ⟨c, hc⟩ : ∃ c, cmpI x y = c := ⟨_, rfl⟩
  rw [hc]
  have HC := hide hc
  have HLL := hide hl
  clear hx hy hc hl
  go_enter Tryz.func231, Tryz.ntmps231
  go_wp2_with fail
  go_loop [7, 8, 9, 10, 13] (fun _ _ _ _ i => ∃ k : Nat, i = .int .i64 k ∧ k ≤ x.length ∧ Hid (∀ j, j < k → x.getD j false = y.getD j false)) (fun _ _ _ _ i => x.length - (intOf i).toNat)
  case atStart => exact ⟨0, rfl, Nat.zero_le _, fun j hj => absurd hj (by omega)⟩
  case round =>
    obtain ⟨k, rfl, hk, HNO⟩ := hrel
    by_cases hkl : k < x.length
    · obtain ⟨bx, ox, a, HA, rfl, hbx, hqx, ex⟩ := HX.out.at7 hkl
      obtain ⟨by1, oy, b, HB, rfl, hby, hqy, ey⟩ := HY.out.at7 (show k < y.length by have := HLL.out; omega)
      have i0 : (0 : Int) ≤ (k : Int) := by omega
      have i1 : (k : Int) < (x.length : Int) := by omega
      have i2 : (k : Int) < (y.length : Int) := by have := HLL.out; omega
      have i3 : (x.length : Int) ≤ (qx : Int) := by omega
      have i4 : (y.length : Int) ≤ (qy : Int) := by omega
      have i5 : ¬ (y.length : Int) ≤ (k : Int) := by have := HLL.out; omega
      clear hqx hqy
      by_cases hab : a = b
      · subst hab
        have hz : (if a = a then (0 : Int) else if a then -1 else 1) = 0 := by rw [if_pos rfl]
        have HZ := hide hz
        clear hz
        go_wp2_with (go_at_call 232; refine (cmp1_any _ _ _).mono ?_; rw [HZ.out]; rintro e w1 ⟨rfl, rfl⟩)
        go_round
        case rel => exact ⟨k + 1, by go_num, by omega, fun j hj => by
            rcases Nat.lt_or_ge j k with h1 | h1
            · exact HNO.out j h1
            · rw [show j = k by omega, HA.out, HB.out]⟩
        case measure => simp [intOf]; omega
      · obtain ⟨z, hz⟩ : ∃ z, (if a = b then (0 : Int) else if b then -1 else 1) = z := ⟨_, rfl⟩
        have hcz : c = z := by
          rw [← HC.out, cmpI_at x y k hkl (by have := HLL.out; omega) HNO.out (by rw [HA.out, HB.out]; exact hab), HB.out, ← hz, if_neg hab]
        have hz0 : (z != 0) = true := by
          rw [← hz, if_neg hab]
          cases b <;> simp
        subst hcz
        have HZ := hide hz
        clear hz
        go_wp2_with (go_at_call 232; refine (cmp1_any _ _ _).mono ?_; rw [HZ.out]; rintro e w1 ⟨rfl, rfl⟩)
        go_ret
        exact ⟨rfl, rfl⟩
    · have hc0 : c = 0 := by
        rw [← HC.out]
        exact cmpI_none x y fun j h1 h2 => HNO.out j (by have := HLL.out; omega)
      subst hc0
      have i1 : ¬ (k : Int) < (x.length : Int) := by omega
      have i2 : ¬ (x.length : Int) < (y.length : Int) := by have := HLL.out; omega
      go_wp2_with fail
      go_ret
      exact ⟨rfl, rfl⟩
set_option maxRecDepth 100000 in
theorem compare_any (x y : List Bool) (Ax Ay : Option Addr) (qx qy : Nat) (w : World) (hl : x.length = y.length) (h40 : x.length ≤ 1000) (hx : Bols w w.heap.size (.slice Ax x.length qx) x) (hy : Bols w w.heap.size (.slice Ay y.length qy) y) :
    Calls Tryz.prog 172 #[.slice Ax x.length qx, .slice Ay y.length qy] w fun e w' => e = .returned (.int .i64 (cmpI x y)) ∧ w = w' := by
  have hcf := cmpf_any x y Ax Ay qx qy w hl h40 hx hy
  obtain ⟨c, hc⟩ : ∃ c, cmpI x y = c := ⟨_, rfl⟩
  rw [hc] at hcf ⊢
  have HCF := hide hcf
  clear hcf hc hx hy hl
  go_enter Tryz.func172, Tryz.ntmps172
  go_wp2_with (go_at_call 231; refine HCF.out.mono ?_; rintro e w1 ⟨rfl, rfl⟩)
  go_ret
  exact ⟨rfl, rfl⟩
end Go.Proofs.YtehadoecnmfeoaaGreat

/- The examples of the laws: walk. -/
import Derived.Test.YtohofcmikfkilaaRows
import Derived.Test.YtohofcmikfkilaaF19
namespace Go.Proofs.Ytohofcmikfkilaa
open Go.RowKit
set_option linter.unusedVariables false
set_option linter.unusedSimpArgs false
theorem exM_err1 : exM.errF [[-1]] = 0 := by kernel_rfl
theorem exM_err3 : exM.errF [[1], [2], [0]] = 0 := by kernel_rfl
theorem exM_four : (satM exM fun v => evF1 v [-1]).length = 4 := by kernel_rfl
theorem exM_all : (satM exM fun _ => true).length = 4 := by kernel_rfl
theorem exM_sat : satM exM (fun _ => true) ≠ [] := by
  intro e
  have h := exM_all
  rw [e] at h
  cases h
theorem exM_five : bestF exM [[1], [2], [0]] [3, 2, 2] = 5 := by kernel_rfl
theorem exM_find : (exts exM.opts.length []).find? (fun y => valF exM [[1], [2], [0]] [3, 2, 2] y == bestF exM [[1], [2], [0]] [3, 2, 2]) = some [false, true, true] := by kernel_rfl
set_option maxRecDepth 100000 in
set_option maxHeartbeats 2000000 in
theorem works_any (w : World) :
    Calls Try.prog 20 #[] w fun e w' => e = .returned (.bool true) ∧ Below w.heap.size w w' := by
  go_enter Try.func20, Try.ntmps20
  go_upto_region 2 with (first
    | (go_at_call 59; refine (Example_any w).mono ?_; rintro e w1 ⟨ov, rv, rfl, hm1, hB1⟩; have HM1 := hide hm1; clear hm1)
    | (go_at_call 31; refine (Count_ok exM [-1] _ _ _ _ exM_sized (by unfold maxLen; decide) (HM1.out.up (Below.allocT (Below.refl _ _) (Nat.le_refl _) _)) (ints_box (l := [-1]) (heap_new _ _ _ rfl) (by simp)) exM_err1 (by decide)).mono ?_; rw [exM_four]; rintro e w2 ⟨rfl, hB2⟩; have HB2 : Hid (Below w.heap.size w w2) := (by repeat (first | exact Below.refl _ _ | assumption | refine Below.drew ?_ | refine Below.drewN ?_ _ | refine Below.allocT ?_ (Nat.le_refl _) _ | refine Below.setCell ?_ (by simp <;> omega) _ | refine Below.to ?_ (by assumption) (Nat.le_refl _))); clear hB1 hB2 HM1))
  go_upto_region 3 with (first
    | (go_at_call 59; refine (Example_any w2).mono ?_; rintro e w3 ⟨ov3, rv3, rfl, hm3, hB3⟩; have HM3 := hide hm3; clear hm3)
    | (go_at_call 21; generalize hw0 : World.alloc _ _ = w0; obtain ⟨h0, h1, h2, h3, h4, hB4, hs4⟩ := alloc5 hw0; clear hw0; refine (Most_ok exM [[1], [2], [0]] [3, 2, 2] _ _ _ _ w0 exM_sized ⟨by unfold maxLen; decide, by unfold maxLen; decide⟩ (HM3.out.up hB4) ⟨fun i => .slice (some ⟨w3.heap.size + i, 0, none⟩) 1 1, sl_box h3 (by omega) ?_, ?_⟩ (ints_box (l := [3, 2, 2]) h4 (by omega)) exM_err3 (by decide) (by decide) rfl (by decide) exM_sat).mono ?_))
  · intro i hi
    have hi3 : i < 3 := hi
    rcases (by omega : i = 0 ∨ i = 1 ∨ i = 2) with rfl | rfl | rfl <;> rfl
  · intro i hi
    have hi3 : i < 3 := hi
    rcases (by omega : i = 0 ∨ i = 1 ∨ i = 2) with rfl | rfl | rfl
    · exact ints_box (l := [1]) h0 (by omega)
    · exact ints_box (l := [2]) h1 (by omega)
    · exact ints_box (l := [0]) h2 (by omega)
  · unfold MostR
    rw [exM_find, exM_five]
    rintro e w4 ⟨v4, x4, rfl, hx4, hl4, hb4, hB5⟩
    injection hx4 with hx4
    subst hx4
    have HB4 := hide hb4
    have HBX : Hid (Below w.heap.size w w4) := Below.to HB2.out (Below.to (Below.to (Below.refl _ _) hB3 (Nat.le_refl _)) (Below.to hB4 hB5 (Nat.le_refl _)) (Nat.le_refl _)) (Nat.le_refl _)
    clear h0 h1 h2 h3 h4 hB4 hs4 HM3 hB3 hB5 hb4 hl4 HB2
    go_wp2_with (go_at_call 23; refine (SameVariant_any [false, true, true] [false, true, true] _ _ _ (Sl.up HB4.out (Below.allocT (Below.refl _ _) (Nat.le_refl _) _)) (bols_box (l := [false, true, true]) (heap_new _ _ _ rfl) (by simp)) (by decide) (by unfold maxLen; decide)).mono ?_; rintro e w5 ⟨rfl, hB6⟩)
    go_ret
    exact ⟨rfl, Below.to (Below.allocT HBX.out (Nat.le_refl _) _) hB6 (Nat.le_refl _)⟩
end Go.Proofs.Ytohofcmikfkilaa

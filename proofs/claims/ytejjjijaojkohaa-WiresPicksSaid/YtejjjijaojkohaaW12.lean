/- Selective: walks; and the law. -/
import Derived.Test.YtejjjijaojkohaaRows
import Derived.Test.YtejjjijaojkohaaW11
import Derived.Deep.DrawnRows
namespace Go.Proofs.Ytejjjijaojkohaa
open Go.RowKit
set_option linter.unusedVariables false
attribute [local go_sem ↓] Go.wp_at_zero Go.wp_at_succ

def fuseErr (f : Fu) : Int := if f.ok then 0 else 72
theorem checkFuseE (f : Fu) (w : World) : Calls Try.prog 54 #[.agg #[.int .i64 f.rating, .int .i64 f.melt]] w fun e w' => e = .returned (.int .i64 (fuseErr f)) ∧ Below w.heap.size w w' := checkFuse_any f w

theorem two_fuses {w0 w1 : World} {b2 b3 : Nat} {lo up : Fu} (h2 : FuseAt w0 b2 lo) (h3 : FuseAt w0 b3 up) (hB : Below w0.heap.size w0 w1) :
    w1.cell? ⟨b2, 0, none⟩ = some (.int .i64 lo.rating) ∧ w1.cell? ⟨b2, 1, none⟩ = some (.int .i64 lo.melt) ∧ w1.cell? ⟨b3, 0, none⟩ = some (.int .i64 up.rating) ∧ w1.cell? ⟨b3, 1, none⟩ = some (.int .i64 up.melt) ∧ Below w0.heap.size w0 w1 :=
  ⟨cellOf (box_to h2 hB) 0, cellOf (box_to h2 hB) 1, cellOf (box_to h3 hB) 0, cellOf (box_to h3 hB) 1, hB⟩

theorem Selective_any (lo up : Fu) (w : World) :
    Calls Try.prog 24 #[.agg #[.int .i64 lo.rating, .int .i64 lo.melt], .agg #[.int .i64 up.rating, .int .i64 up.melt]] w fun e w' => e = .returned (.tuple #[.int .i64 (selVal lo up), .int .i64 (selErr lo up)]) ∧ Below w.heap.size w w' := by
  obtain ⟨x, hx⟩ : ∃ x, fuseErr lo = x := ⟨_, rfl⟩
  obtain ⟨y, hy⟩ : ∃ y, fuseErr up = y := ⟨_, rfl⟩
  obtain ⟨z, hz⟩ : ∃ z : Int, (if x = 0 then y else x) = z := ⟨_, rfl⟩
  have HX := hide hx
  have HY := hide hy
  have HZ := hide hz
  clear hx hy hz
  go_enter Try.func24, Try.ntmps24
  go_wp2_with fail
  obtain ⟨w0, hw0⟩ : ∃ w0 : World, (w.alloc (.cells #[.int .i64 lo.rating, .int .i64 lo.melt] 30)).alloc (.cells #[.int .i64 up.rating, .int .i64 up.melt] 30) = w0 := ⟨_, rfl⟩
  have hb2 : FuseAt w0 w.heap.size lo := by
    unfold FuseAt; rw [← hw0, heap_old _ _ _ (by simp), heap_new _ _ _ rfl]
  have hb3 : FuseAt w0 (w.heap.size + 1) up := by
    unfold FuseAt; rw [← hw0, heap_new _ _ _ (by simp)]
  have hB0 : Below w.heap.size w w0 := by rw [← hw0]; exact (by repeat (first | exact Below.refl _ _ | assumption | refine Below.drew ?_ | refine Below.drewN ?_ _ | refine Below.allocT ?_ (Nat.le_refl _) _ | refine Below.setCell ?_ (by simp <;> omega) _ | refine Below.to ?_ (by assumption) (Nat.le_refl _)))
  have hs0 : w0.heap.size = w.heap.size + 2 := by rw [← hw0]; simp
  have HB2 := hide hb2
  have HB3 := hide hb3
  rw [hw0]
  obtain ⟨k0, k1, k2, k3, k4⟩ := two_fuses hb2 hb3 (Below.refl _ w0)
  clear hb2 hb3 hw0
  have HS0 := hide hs0
  clear hs0
  go_region_held3 (fun w' => w'.cell? ⟨w.heap.size, 0, none⟩ = some (.int .i64 lo.rating) ∧ w'.cell? ⟨w.heap.size, 1, none⟩ = some (.int .i64 lo.melt) ∧ w'.cell? ⟨w.heap.size + 1, 0, none⟩ = some (.int .i64 up.rating) ∧ w'.cell? ⟨w.heap.size + 1, 1, none⟩ = some (.int .i64 up.melt) ∧ Below w0.heap.size w0 w')
    (exact two_fuses HB2.out HB3.out (by repeat (first | exact Below.refl _ _ | assumption | refine Below.drew ?_ | refine Below.drewN ?_ _ | refine Below.allocT ?_ (Nat.le_refl _) _ | refine Below.setCell ?_ (by simp <;> omega) _ | refine Below.to ?_ (by assumption) (Nat.le_refl _))))
    (first | (go_at_call 54; refine (checkFuseE _ _).mono ?_; (first | rw [HX.out] | rw [HY.out]); rintro e w1 ⟨rfl, hB⟩)
           | (go_at_call 58; refine (errors2v _ x y z _ (by simp) (by simp) HZ.out).mono ?_; rintro e w1 ⟨rfl, rfl⟩))
  rename_i hHeld
  obtain ⟨j0, j1, j2, j3, j4⟩ := hHeld
  have HJ4 := hide j4
  clear j4 k0 k1 k2 k3 k4
  by_cases hz0 : z = 0
  · have hok : lo.ok = true ∧ up.ok = true := by
      have h1 := HX.out
      have h2 := HY.out
      have h3 := HZ.out
      unfold fuseErr at h1 h2
      cases hl : lo.ok <;> cases hu : up.ok <;> simp [hl, hu] at h1 h2 <;> subst h1 <;> subst h2 <;> simp_all
    have hz1 : (z != 0) = false := by simp [hz0]
    have HZ0 := hide hz0
    clear hz0
    have HOK := hide hok
    clear hok
    go_wp2_with (go_at_call 63; refine (selective_any lo up _ (Fu.ok_iff.1 HOK.out.1) (Fu.ok_iff.1 HOK.out.2)).mono ?_; rintro e w3 ⟨rfl, hB3⟩)
    go_ret2
    exact ⟨by simp [selVal, selErr, HOK.out.1, HOK.out.2], Below.to (Below.to hB0 HJ4.out (Nat.le_refl _)) hB3 (Nat.le_refl _)⟩
  · have hok : ¬ (lo.ok = true ∧ up.ok = true) := by
      have h1 := HX.out
      have h2 := HY.out
      have h3 := HZ.out
      rintro ⟨hl, hu⟩
      unfold fuseErr at h1 h2
      simp [hl, hu] at h1 h2
      subst h1; subst h2
      simp at h3
      exact hz0 h3.symm
    have hz2 : z = 72 := by
      have h1 := HX.out
      have h2 := HY.out
      have h3 := HZ.out
      unfold fuseErr at h1 h2
      cases hl : lo.ok <;> cases hu : up.ok <;> simp [hl, hu] at h1 h2 <;> subst h1 <;> subst h2 <;> simp_all
    have hz1 : (z != 0) = true := by simp [hz0]
    have HZ2 := hide hz2
    clear hz0 hz2
    have HOK := hide hok
    clear hok
    go_wp2
    go_ret2
    refine ⟨?_, Below.to hB0 HJ4.out (Nat.le_refl _)⟩
    have hno : (lo.ok && up.ok) = false := by
      have := HOK.out
      cases hl : lo.ok <;> cases hu : up.ok <;> simp_all
    simp [selVal, selErr, hno, HZ2.out]

theorem rSelective_any (lo up : Fu) (w : World) :
    Calls Try.prog 25 #[.agg #[.int .i64 lo.rating, .int .i64 lo.melt], .agg #[.int .i64 up.rating, .int .i64 up.melt]] w fun e w' => e = .returned (.tuple #[.int .i64 (selVal lo up), .int .i64 (selErr lo up)]) ∧ Below w.heap.size w w' := by
  cases hl : lo.ok with
  | false =>
    go_enter Try.func25, Try.ntmps25
    go_wp2_with (go_at_call 56; refine (fuse_any lo _).mono ?_; rw [hl]; rintro e w1 ⟨rfl, hB1⟩)
    go_ret2
    exact ⟨by simp [selVal, selErr, hl], (by repeat (first | exact Below.refl _ _ | assumption | refine Below.drew ?_ | refine Below.drewN ?_ _ | refine Below.allocT ?_ (Nat.le_refl _) _ | refine Below.setCell ?_ (by simp <;> omega) _ | refine Below.to ?_ (by assumption) (Nat.le_refl _)))⟩
  | true =>
    cases hu : up.ok with
    | false =>
      go_enter Try.func25, Try.ntmps25
      go_wp2_with fail
      obtain ⟨w0, hw0⟩ : ∃ w0 : World, (w.alloc (.cells #[.int .i64 lo.rating, .int .i64 lo.melt] 30)).alloc (.cells #[.int .i64 up.rating, .int .i64 up.melt] 30) = w0 := ⟨_, rfl⟩
      have hb2 : FuseAt w0 w.heap.size lo := by
        unfold FuseAt; rw [← hw0, heap_old _ _ _ (by simp), heap_new _ _ _ rfl]
      have hb3 : FuseAt w0 (w.heap.size + 1) up := by
        unfold FuseAt; rw [← hw0, heap_new _ _ _ (by simp)]
      have hB0 : Below w.heap.size w w0 := by rw [← hw0]; exact (by repeat (first | exact Below.refl _ _ | assumption | refine Below.drew ?_ | refine Below.drewN ?_ _ | refine Below.allocT ?_ (Nat.le_refl _) _ | refine Below.setCell ?_ (by simp <;> omega) _ | refine Below.to ?_ (by assumption) (Nat.le_refl _)))
      have HB2 := hide hb2
      have HB3 := hide hb3
      rw [hw0]
      clear hb2 hb3 hw0
      refine (fuse_any lo _).mono ?_
      rw [hl]
      rintro e w1 ⟨rfl, hB1⟩
      obtain ⟨d0, d1, d2, d3, _⟩ := two_fuses HB2.out HB3.out hB1
      go_wp2_with fail
      refine (fuse_any up _).mono ?_
      rw [hu]
      rintro e w2 ⟨rfl, hB2⟩
      go_wp2_with fail
      go_ret2
      exact ⟨by simp [selVal, selErr, hl, hu], (by repeat (first | exact Below.refl _ _ | assumption | refine Below.drew ?_ | refine Below.drewN ?_ _ | refine Below.allocT ?_ (Nat.le_refl _) _ | refine Below.setCell ?_ (by simp <;> omega) _ | refine Below.to ?_ (by assumption) (Nat.le_refl _)))⟩
    | true =>
      have HOL := hide (Fu.ok_iff.1 hl)
      have HOU := hide (Fu.ok_iff.1 hu)
      go_enter Try.func25, Try.ntmps25
      go_wp2_with fail
      obtain ⟨w0, hw0⟩ : ∃ w0 : World, (w.alloc (.cells #[.int .i64 lo.rating, .int .i64 lo.melt] 30)).alloc (.cells #[.int .i64 up.rating, .int .i64 up.melt] 30) = w0 := ⟨_, rfl⟩
      have hb2 : FuseAt w0 w.heap.size lo := by
        unfold FuseAt; rw [← hw0, heap_old _ _ _ (by simp), heap_new _ _ _ rfl]
      have hb3 : FuseAt w0 (w.heap.size + 1) up := by
        unfold FuseAt; rw [← hw0, heap_new _ _ _ (by simp)]
      have hB0 : Below w.heap.size w w0 := by rw [← hw0]; exact (by repeat (first | exact Below.refl _ _ | assumption | refine Below.drew ?_ | refine Below.drewN ?_ _ | refine Below.allocT ?_ (Nat.le_refl _) _ | refine Below.setCell ?_ (by simp <;> omega) _ | refine Below.to ?_ (by assumption) (Nat.le_refl _)))
      have HB2 := hide hb2
      have HB3 := hide hb3
      rw [hw0]
      clear hb2 hb3 hw0
      refine (fuse_any lo _).mono ?_
      rw [hl]
      rintro e w1 ⟨rfl, hB1⟩
      obtain ⟨d0, d1, d2, d3, _⟩ := two_fuses HB2.out HB3.out hB1
      go_wp2_with fail
      refine (fuse_any up _).mono ?_
      rw [hu]
      rintro e w2 ⟨rfl, hB2⟩
      obtain ⟨e0, e1, e2, e3, _⟩ := two_fuses HB2.out HB3.out (Below.to hB1 hB2 (Nat.le_refl _))
      go_wp2_with (go_at_call 64; refine (rselective_any lo up _ HOL.out HOU.out).mono ?_; rintro e w3 ⟨rfl, hB3⟩)
      go_ret2
      exact ⟨by simp [selVal, selErr, hl, hu], (by repeat (first | exact Below.refl _ _ | assumption | refine Below.drew ?_ | refine Below.drewN ?_ _ | refine Below.allocT ?_ (Nat.le_refl _) _ | refine Below.setCell ?_ (by simp <;> omega) _ | refine Below.to ?_ (by assumption) (Nat.le_refl _)))⟩
end Go.Proofs.Ytejjjijaojkohaa

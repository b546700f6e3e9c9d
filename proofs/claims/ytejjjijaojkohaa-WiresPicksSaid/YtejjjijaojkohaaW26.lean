/- Fits: both walks. -/
import Derived.Test.YtejjjijaojkohaaRows
import Derived.Test.YtejjjijaojkohaaW25
import Derived.Test.YtejjjijaojkohaaW22
import Derived.Deep.RegionHeld3
import Derived.Deep.DrawnRows
namespace Go.Proofs.Ytejjjijaojkohaa
open Go.RowKit
set_option linter.unusedVariables false
set_option linter.unusedSimpArgs false
attribute [local go_sem ↓] Go.wp_at_zero Go.wp_at_succ

def fitErr (g : Ga) (n : Ne) (cs : List Cu) : Int := if g.ok then if needOk n cs then 0 else 71 else 70
def fitVal (g : Ga) (n : Ne) (cs : List Cu) : Bool := g.ok && needOk n cs && fitsB g n cs

theorem Fits_any (g : Ga) (n : Ne) (v : Value) (cs : List Cu) (w : World) (hn : cs.length ≤ 20) (h : Cyc w w.heap.size v cs) :
    Calls Try.prog 33 #[.agg #[.int .i64 g.area, .int .i64 g.ohm, .int .i64 g.heat, .int .i64 g.cool, .int .i64 g.limit], .agg #[v, .int .i64 n.len, .int .i64 n.drop, .int .i64 n.amb]] w fun e w' => e = .returned (.tuple #[.bool (fitVal g n cs), .int .i64 (fitErr g n cs)]) ∧ Below w.heap.size w w' := by
  have H := hide h
  obtain ⟨A0, cap0, rfl⟩ := h.form
  clear h
  obtain ⟨x, hx⟩ : ∃ x, gaugeErr g = x := ⟨_, rfl⟩
  obtain ⟨y, hy⟩ : ∃ y, needErr n cs = y := ⟨_, rfl⟩
  obtain ⟨z, hz⟩ : ∃ z : Int, (if x = 0 then y else x) = z := ⟨_, rfl⟩
  have HX := hide hx
  have HY := hide hy
  have HZ := hide hz
  have HE : Hid (z = fitErr g n cs) := by
    show _ = _
    rw [← hz, ← hx, ← hy]
    unfold gaugeErr needErr fitErr
    cases g.ok <;> cases needOk n cs <;> simp
  clear hx hy hz
  go_enter Try.func33, Try.ntmps33
  go_wp2_with fail
  obtain ⟨w0, hw0⟩ : ∃ w0 : World, (w.alloc (.cells #[.int .i64 g.area, .int .i64 g.ohm, .int .i64 g.heat, .int .i64 g.cool, .int .i64 g.limit] 23)).alloc (.cells #[(.slice A0 cs.length cap0), .int .i64 n.len, .int .i64 n.drop, .int .i64 n.amb] 48) = w0 := ⟨_, rfl⟩
  have hga : GaugeAt w0 w.heap.size g := by unfold GaugeAt; rw [← hw0, heap_old _ _ _ (by simp <;> omega), heap_new _ _ _ rfl]
  have hne : NeedAt w0 (w.heap.size + 1) (.slice A0 cs.length cap0) n := by unfold NeedAt; rw [← hw0, heap_new _ _ _ (by simp)]
  have hB0 : Below w.heap.size w w0 := by rw [← hw0]; exact (by repeat (first | exact Below.refl _ _ | assumption | refine Below.drew ?_ | refine Below.drewN ?_ _ | refine Below.allocT ?_ (Nat.le_refl _) _ | refine Below.setCell ?_ (by simp <;> omega) _ | refine Below.to ?_ (by assumption) (Nat.le_refl _)))
  have HGA := hide hga
  have HNE := hide hne
  have HB0 := hide hB0
  have HC0 : Hid (Cyc w0 w0.heap.size (.slice A0 cs.length cap0) cs) := (H.out.below hB0).more hB0.size
  rw [hw0]
  clear hga hne hw0 hB0
  obtain ⟨k0, k1, k2, k3, k4, k5, k6, k7, k8, _⟩ := nega HGA.out HNE.out (Below.refl _ w0)
  go_region_held3 (fun w' => w'.cell? ⟨w.heap.size, 0, none⟩ = some (.int .i64 g.area) ∧ w'.cell? ⟨w.heap.size, 1, none⟩ = some (.int .i64 g.ohm) ∧ w'.cell? ⟨w.heap.size, 2, none⟩ = some (.int .i64 g.heat) ∧ w'.cell? ⟨w.heap.size, 3, none⟩ = some (.int .i64 g.cool) ∧ w'.cell? ⟨w.heap.size, 4, none⟩ = some (.int .i64 g.limit) ∧ w'.cell? ⟨w.heap.size + 1, 0, none⟩ = some (.slice A0 cs.length cap0) ∧ w'.cell? ⟨w.heap.size + 1, 1, none⟩ = some (.int .i64 n.len) ∧ w'.cell? ⟨w.heap.size + 1, 2, none⟩ = some (.int .i64 n.drop) ∧ w'.cell? ⟨w.heap.size + 1, 3, none⟩ = some (.int .i64 n.amb) ∧ Below w0.heap.size w0 w')
    (exact nega HGA.out HNE.out (by repeat (first | exact Below.refl _ _ | assumption | refine Below.drew ?_ | refine Below.drewN ?_ _ | refine Below.allocT ?_ (Nat.le_refl _) _ | refine Below.setCell ?_ (by simp <;> omega) _ | refine Below.to ?_ (by assumption) (Nat.le_refl _))))
    (first | (go_at_call 48; refine (checkGaugeE _ _).mono ?_; rw [HX.out]; rintro e w1 ⟨rfl, hB⟩)
           | (go_at_call 72; refine (checkNeed_any n _ cs _ hn (HC0.out.up (by repeat (first | exact Below.refl _ _ | assumption | refine Below.drew ?_ | refine Below.drewN ?_ _ | refine Below.allocT ?_ (Nat.le_refl _) _ | refine Below.setCell ?_ (by simp <;> omega) _ | refine Below.to ?_ (by assumption) (Nat.le_refl _))))).mono ?_; rw [HY.out]; rintro e w2 ⟨rfl, hB2⟩)
           | (go_at_call 58; refine (errors2v _ x y z _ (by simp) (by simp) HZ.out).mono ?_; rintro e w3 ⟨rfl, rfl⟩))
  all_goals
    rename_i hHeld
    obtain ⟨j0, j1, j2, j3, j4, j5, j6, j7, j8, j9⟩ := hHeld
    have HJ := hide j9
    clear j9 k0 k1 k2 k3 k4 k5 k6 k7 k8
    by_cases hz0 : z = 0
    · have hok : g.ok = true ∧ needOk n cs = true := by
        have h3 := HE.out
        unfold fitErr at h3
        cases hl : g.ok <;> cases hu : needOk n cs <;> simp [hl, hu, hz0] at h3 ⊢
      have hz1 : (z != 0) = false := by simp [hz0]
      have HZ0 := hide hz0
      have HOK := hide hok
      clear hz0 hok
      go_wp2_with fail
      refine (fits_any g n _ cs _ (Ga.ok_iff.1 HOK.out.1) (needOk_iff.1 HOK.out.2) (HC0.out.up HJ.out)).mono ?_
      rintro e w9 ⟨rfl, hB9⟩
      go_wp2_with fail
      go_ret2
      exact ⟨by simp [fitVal, fitErr, HOK.out.1, HOK.out.2], Below.to (Below.to HB0.out HJ.out (Nat.le_refl _)) hB9 (Nat.le_refl _)⟩
    · have hz1 : (z != 0) = true := by simp [hz0]
      have hno : fitVal g n cs = false := by
        have h3 := HE.out
        unfold fitErr at h3
        unfold fitVal
        cases hl : g.ok <;> cases hu : needOk n cs <;> simp [hl, hu] at h3 ⊢
        exact absurd h3 hz0
      have HNO := hide hno
      clear hz0 hno
      go_wp2
      go_ret2
      exact ⟨by rw [HNO.out, ← HE.out]; rfl, Below.to HB0.out HJ.out (Nat.le_refl _)⟩

theorem rFits_any (g : Ga) (n : Ne) (v : Value) (cs : List Cu) (w : World) (hn : cs.length ≤ 20) (h : Cyc w w.heap.size v cs) :
    Calls Try.prog 34 #[.agg #[.int .i64 g.area, .int .i64 g.ohm, .int .i64 g.heat, .int .i64 g.cool, .int .i64 g.limit], .agg #[v, .int .i64 n.len, .int .i64 n.drop, .int .i64 n.amb]] w fun e w' => e = .returned (.tuple #[.bool (fitVal g n cs), .int .i64 (fitErr g n cs)]) ∧ Below w.heap.size w w' := by
  have H := hide h
  obtain ⟨A0, cap0, rfl⟩ := h.form
  clear h
  go_enter Try.func34, Try.ntmps34
  go_wp2_with fail
  obtain ⟨w0, hw0⟩ : ∃ w0 : World, (w.alloc (.cells #[.int .i64 g.area, .int .i64 g.ohm, .int .i64 g.heat, .int .i64 g.cool, .int .i64 g.limit] 23)).alloc (.cells #[(.slice A0 cs.length cap0), .int .i64 n.len, .int .i64 n.drop, .int .i64 n.amb] 48) = w0 := ⟨_, rfl⟩
  have hga : GaugeAt w0 w.heap.size g := by unfold GaugeAt; rw [← hw0, heap_old _ _ _ (by simp <;> omega), heap_new _ _ _ rfl]
  have hne : NeedAt w0 (w.heap.size + 1) (.slice A0 cs.length cap0) n := by unfold NeedAt; rw [← hw0, heap_new _ _ _ (by simp)]
  have hB0 : Below w.heap.size w w0 := by rw [← hw0]; exact (by repeat (first | exact Below.refl _ _ | assumption | refine Below.drew ?_ | refine Below.drewN ?_ _ | refine Below.allocT ?_ (Nat.le_refl _) _ | refine Below.setCell ?_ (by simp <;> omega) _ | refine Below.to ?_ (by assumption) (Nat.le_refl _)))
  have HGA := hide hga
  have HNE := hide hne
  have HB0 := hide hB0
  have HC0 : Hid (Cyc w0 w0.heap.size (.slice A0 cs.length cap0) cs) := (H.out.below hB0).more hB0.size
  rw [hw0]
  clear hga hne hw0 hB0
  refine (gauge_any g _).mono ?_
  rintro e w1 ⟨rfl, hB1⟩
  have HB1 := hide hB1
  clear hB1
  obtain ⟨k0, k1, k2, k3, k4, k5, k6, k7, k8, _⟩ := nega HGA.out HNE.out HB1.out
  cases hf : g.ok with
  | false =>
    go_wp2_with fail
    go_ret2
    exact ⟨by simp [fitVal, fitErr, hf], Below.to HB0.out HB1.out (Nat.le_refl _)⟩
  | true =>
    have HF := hide hf
    go_wp2_with fail
    refine (rneed_any n _ cs _ hn (HC0.out.up HB1.out)).mono ?_
    rintro e w2 ⟨rfl, hB2⟩
    have HB2 := hide (Below.to HB1.out hB2 (Nat.le_refl _))
    clear hB2 k0 k1 k2 k3 k4 k5 k6 k7 k8
    obtain ⟨k0, k1, k2, k3, k4, k5, k6, k7, k8, _⟩ := nega HGA.out HNE.out HB2.out
    cases hg : needOk n cs with
    | false =>
      go_wp2_with fail
      go_ret2
      exact ⟨by simp [fitVal, fitErr, HF.out, hg], Below.to HB0.out HB2.out (Nat.le_refl _)⟩
    | true =>
      have HG := hide hg
      go_wp2_with fail
      refine (rfits_any g n _ cs _ (Ga.ok_iff.1 HF.out) (needOk_iff.1 HG.out) (HC0.out.up HB2.out)).mono ?_
      rintro e w9 ⟨rfl, hB9⟩
      go_wp2_with fail
      go_ret2
      exact ⟨by simp [fitVal, fitErr, HF.out, HG.out], Below.to (Below.to HB0.out HB2.out (Nat.le_refl _)) hB9 (Nat.le_refl _)⟩
end Go.Proofs.Ytejjjijaojkohaa

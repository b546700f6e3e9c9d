/- Rise and Peak return what the document specifies: for every gauge, cycle and number; no condition. -/
import Derived.Test.YtejjjijaojkohaaRows
import Derived.Test.YtejjjijaojkohaaW14
import Derived.Test.YtejjjijaojkohaaWO
import Derived.Deep.RegionHeld3
import Derived.Deep.DrawnRows
namespace Go.Proofs.Ytejjjijaojkohaa
open Go.Joins Go.ChangeShapes Go.WideShapes Go.ChangeAt Go.RowKit Go.Deep
set_option linter.unusedVariables false
attribute [local go_sem ↓] Go.wp_at_zero Go.wp_at_succ

theorem wiresRises_walk (g : Ga) (v : Value) (cs : List Cu) (n : Int) (w : World) (hm : cs.length ≤ maxLen) (h : Cyc w w.heap.size v cs) :
    Calls Try.prog 6 #[.agg #[.int .i64 g.area, .int .i64 g.ohm, .int .i64 g.heat, .int .i64 g.cool, .int .i64 g.limit], v, .int .i64 n] w fun e w' => e = .returned (.bool true) ∧ Below w.heap.size w w' := by
  have H := hide h
  obtain ⟨A0, cap0, rfl⟩ := h.form
  clear h
  by_cases hn : 20 < cs.length
  · have hd : decide (20 < cs.length) = true := by simpa using hn
    go_enter Try.func6, Try.ntmps6
    go_wp2_with (first
      | (go_at_call 18; refine (far_any _ _ _ _ _ rfl hm).mono ?_; rw [hd]; rintro e w1 ⟨rfl, rfl⟩)
      | (go_at_call 17; refine (works_any _).mono ?_; rintro e w3 ⟨rfl, hB3⟩))
    go_ret
    exact ⟨rfl, (by repeat (first | exact Below.refl _ _ | assumption | refine Below.drew ?_ | refine Below.drewN ?_ _ | refine Below.allocT ?_ (Nat.le_refl _) _ | refine Below.setCell ?_ (by simp <;> omega) _ | refine Below.to ?_ (by assumption) (Nat.le_refl _)))⟩
  · have hd : decide (20 < cs.length) = false := by simpa using hn
    have hn' : cs.length ≤ 20 := by omega
    obtain ⟨rv, hrv⟩ : ∃ x, riseVal g cs n = x := ⟨_, rfl⟩
    obtain ⟨re, hre⟩ : ∃ x, riseErr g cs n = x := ⟨_, rfl⟩
    obtain ⟨pv, hpv⟩ : ∃ x, peakVal g cs = x := ⟨_, rfl⟩
    obtain ⟨pe, hpe⟩ : ∃ x, peakErr g cs = x := ⟨_, rfl⟩
    have HRV := hide hrv
    have HRE := hide hre
    have HPV := hide hpv
    have HPE := hide hpe
    clear hrv hre hpv hpe
    go_enter Try.func6, Try.ntmps6
    go_wp2_with (go_at_call 18; refine (far_any _ _ _ _ _ rfl hm).mono ?_; rw [hd]; rintro e w1 ⟨rfl, rfl⟩)
    obtain ⟨w0, hw0⟩ : ∃ w0 : World, w.alloc (.cells #[.int .i64 g.area, .int .i64 g.ohm, .int .i64 g.heat, .int .i64 g.cool, .int .i64 g.limit] 23) = w0 := ⟨_, rfl⟩
    have hg0 : GaugeAt w0 w.heap.size g := by unfold GaugeAt; rw [← hw0, heap_new _ _ _ rfl]
    have hB0 : Below w.heap.size w w0 := by rw [← hw0]; exact (by repeat (first | exact Below.refl _ _ | assumption | refine Below.drew ?_ | refine Below.drewN ?_ _ | refine Below.allocT ?_ (Nat.le_refl _) _ | refine Below.setCell ?_ (by simp <;> omega) _ | refine Below.to ?_ (by assumption) (Nat.le_refl _)))
    have HC0 : Hid (Cyc w0 w0.heap.size (.slice A0 cs.length cap0) cs) := (H.out.below hB0).more hB0.size
    have HG0 := hide hg0
    have HB0 := hide hB0
    rw [hw0]
    obtain ⟨k0, k1, k2, k3, k4, k5⟩ := gauge5 hg0 (Below.refl _ w0)
    clear hg0 hw0 hB0
    go_region_held3 (fun w' => w'.cell? ⟨w.heap.size, 0, none⟩ = some (.int .i64 g.area) ∧ w'.cell? ⟨w.heap.size, 1, none⟩ = some (.int .i64 g.ohm) ∧ w'.cell? ⟨w.heap.size, 2, none⟩ = some (.int .i64 g.heat) ∧ w'.cell? ⟨w.heap.size, 3, none⟩ = some (.int .i64 g.cool) ∧ w'.cell? ⟨w.heap.size, 4, none⟩ = some (.int .i64 g.limit) ∧ Below w0.heap.size w0 w')
      (exact gauge5 HG0.out (by repeat (first | exact Below.refl _ _ | assumption | refine Below.drew ?_ | refine Below.drewN ?_ _ | refine Below.allocT ?_ (Nat.le_refl _) _ | refine Below.setCell ?_ (by simp <;> omega) _ | refine Below.to ?_ (by assumption) (Nat.le_refl _))))
      (first | (go_at_call 22; refine (cycle_any _ cs _ hn' (by exact HC0.out)).mono ?_; rintro e w1 ⟨v1, rfl, hc1, hB1⟩)
             | (go_at_call 26; refine (Rise_any g _ cs n _ hn' (by exact hc1)).mono ?_; rw [HRV.out, HRE.out]; rintro e w2 ⟨rfl, hB2⟩))
    rename_i hh2
    obtain ⟨j0, j1, j2, j3, j4, hW2⟩ := hh2
    have HC2 : Hid (Cyc w2 w2.heap.size (.slice A0 cs.length cap0) cs) := HC0.out.up hW2
    have HW2 := hide hW2
    clear k0 k1 k2 k3 k4 k5 hc1 hB1 hB2 hW2
    go_wp2_with fail
    refine (rRise_any g _ cs n _ hn' HC2.out).mono ?_
    rw [HRV.out, HRE.out]
    rintro e w3 ⟨rfl, hB3⟩
    have hW3 : Below w0.heap.size w0 w3 := Below.to HW2.out hB3 (Nat.le_refl _)
    have HC3 : Hid (Cyc w3 w3.heap.size (.slice A0 cs.length cap0) cs) := HC0.out.up hW3
    have HG3 : Hid (GaugeAt w3 w.heap.size g) := box_to HG0.out hW3
    have HW3 := hide hW3
    clear j0 j1 j2 j3 j4 hB3 hW3
    obtain ⟨k0, k1, k2, k3, k4, k5⟩ := gauge5 HG3.out (Below.refl _ w3)
    go_wp2_with fail
    go_region_held3 (fun w' => w'.cell? ⟨w.heap.size, 0, none⟩ = some (.int .i64 g.area) ∧ w'.cell? ⟨w.heap.size, 1, none⟩ = some (.int .i64 g.ohm) ∧ w'.cell? ⟨w.heap.size, 2, none⟩ = some (.int .i64 g.heat) ∧ w'.cell? ⟨w.heap.size, 3, none⟩ = some (.int .i64 g.cool) ∧ w'.cell? ⟨w.heap.size, 4, none⟩ = some (.int .i64 g.limit) ∧ Below w3.heap.size w3 w')
      (exact gauge5 HG3.out (by repeat (first | exact Below.refl _ _ | assumption | refine Below.drew ?_ | refine Below.drewN ?_ _ | refine Below.allocT ?_ (Nat.le_refl _) _ | refine Below.setCell ?_ (by simp <;> omega) _ | refine Below.to ?_ (by assumption) (Nat.le_refl _))))
      (first | (go_at_call 22; refine (cycle_any _ cs _ hn' (by exact HC3.out)).mono ?_; rintro e w4 ⟨v4, rfl, hc4, hB4⟩)
             | (go_at_call 28; refine (Peak_any g _ cs _ hn' (by exact hc4)).mono ?_; rw [HPV.out, HPE.out]; rintro e w5 ⟨rfl, hB5⟩))
    rename_i hh5
    obtain ⟨j0, j1, j2, j3, j4, hW5⟩ := hh5
    have HC5 : Hid (Cyc w5 w5.heap.size (.slice A0 cs.length cap0) cs) := HC3.out.up hW5
    have HW5 := hide hW5
    clear k0 k1 k2 k3 k4 k5 hc4 hB4 hB5 hW5
    go_wp2_with fail
    refine (rPeak_any g _ cs _ hn' HC5.out).mono ?_
    rw [HPV.out, HPE.out]
    rintro e w6 ⟨rfl, hB6⟩
    go_wp2_with (go_at_call 17; refine (works_any _).mono ?_; rintro e w7 ⟨rfl, hB7⟩)
    go_ret
    exact ⟨rfl, Below.to (Below.to (Below.to (Below.to HB0.out HW3.out (Nat.le_refl _)) HW5.out (Nat.le_refl _)) hB6 (Nat.le_refl _)) hB7 (Nat.le_refl _)⟩

theorem own_WiresRises : ownKnob Try.prog.godebug = none := by kernel_rfl
theorem laid_WiresRises : laidOutB Try.prog = true := by kernel_rfl
theorem par_WiresRises : ∀ t ∈ Try.f6.params.toList, Try.prog.readableRec t = true ∧ t < Try.prog.types.size := by
  rw [Try.params6]
  intro t ht
  simp only [List.mem_cons, List.not_mem_nil, or_false] at ht
  rcases ht with rfl | rfl | rfl <;> exact ⟨by kernel_rfl, of_decide_eq_true (by kernel_rfl)⟩
set_option maxRecDepth 100000 in
theorem wiresRises_lifted (os : Os) (started : os.Started) (H : Type) (enc : TypeId × Value → H) :
    ReturnsInHanded {} Try.checked os 6 .any (Rows.wiresRisesSpec.pre6 enc Try.prog Try.f6 Rows.wiresRisesRow.domain false) (Rows.wiresRisesSpec.post enc Try.prog Try.f6 false true false false) := by
  refine returnsInHanded_of_change (C := Try.checked) own_WiresRises started (by kernel_rfl) Try.func6
    (ChangeSpec.witness6 (enc := enc) (C := Try.checked) false ⟨#[], #[.agg #[.int .i64 0, .int .i64 0, .int .i64 0, .int .i64 0, .int .i64 0], .slice none 0 0, .int .i64 0], []⟩ 8 (by kernel_rfl) (by kernel_rfl) (by kernel_rfl) (by kernel_rfl)) ?_
  intro W base args ds gs before hval0 hW hcnd _
  have hval : ∀ (j : Nat) t v, Try.f6.params[j]? = some t → args[j]? = some v → Value.okWide Try.prog W .any base t v := hval0
  have hW' := hW
  obtain ⟨p, q, hA0, hV, rfl, hfz, hnd⟩ := hW
  have hA : DataW.TrodAll enc Try.prog W 0 (fun _ => true) true Try.f6.params.toList args.toList ds p := hA0
  have hAll := hA
  have hltp : ∀ x ∈ p, x.block < W.heap.size := fun x hx => hW'.lt x (List.mem_append_left _ hx)
  rw [Try.params6] at hA hval
  obtain ⟨v0, v1, v2, d0, d1, d2, p0, p1, p2, rfl, rfl, rfl, h0, h1, h2⟩ := trodAll_three hA
  obtain ⟨rfl, rfl⟩ := trodVars_none hV
  obtain ⟨g, rfl⟩ := open_gauge (hval 0 23 v0 rfl rfl) h0
  obtain ⟨cs, hcy, hcl, _⟩ := open_cycle (hval 1 31 v1 rfl rfl) h1
  obtain ⟨n, rfl, _⟩ := open_i64 (hval 2 3 v2 rfl rfl) h2
  refine (wiresRises_walk g v1 cs n W hcl hcy).mono fun e W2 ⟨he, hb⟩ => ?_
  subst he
  exact ⟨_, rfl, post_of_below (pv := []) hW' (fun _ _ _ => trodAll_mk1 (shut_bool Try.underlying4 _)) (fun sp hsp => trodAll_stays laid_WiresRises hb sp _ _ _ _ par_WiresRises hAll hltp (fun x hx => hsp x (List.mem_append_left _ hx))) (fun _ _ => rfl) rfl hb
    (ok_one (by kernel_rfl) rfl (okWide_bool_mk Try.underlying4 _))⟩
theorem wiresRises_holds : Rows.WiresRisesSaid :=
  OpenClaim.holds_of_wide 6 Try.f6 rfl rfl rfl rfl rfl rfl rfl ⟨rfl, rfl, rfl, rfl, rfl⟩ rfl rfl rfl rfl rfl (by kernel_rfl) Try.func6 (by kernel_rfl)
    (of_decide_eq_true (by kernel_rfl)) (by unfold Func.isWrapper; first | (rw [if_pos (by decide +kernel)]; kernel_rfl) | (rw [if_neg (by decide +kernel)]; exact ⟨rfl, rfl⟩))
    (fun os started H enc _ => wiresRises_lifted os started H enc)
#print axioms wiresRises_holds

end Go.Proofs.Ytejjjijaojkohaa

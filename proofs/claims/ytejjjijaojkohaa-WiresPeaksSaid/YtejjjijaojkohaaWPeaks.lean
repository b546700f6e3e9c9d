/- A peak that is not above the limit is the greatest rise of all seconds; a fuse opens earlier under a greater current, and at all exactly above its rating: for every gauge, cycle and fuse; no condition. -/
import Derived.Test.YtejjjijaojkohaaRows
import Derived.Test.YtejjjijaojkohaaW14
import Derived.Test.YtejjjijaojkohaaW15
import Derived.Test.YtejjjijaojkohaaW11
import Derived.Test.YtejjjijaojkohaaWO
import Derived.Deep.RegionHeld3
import Derived.Deep.DrawnRows
namespace Go.Proofs.Ytejjjijaojkohaa
open Go.Joins Go.ChangeShapes Go.WideShapes Go.ChangeAt Go.RowKit Go.Deep
set_option linter.unusedVariables false
set_option maxRecDepth 100000
attribute [local go_sem ↓] Go.wp_at_zero Go.wp_at_succ

/-- What the last round of the second loop left. -/
def LastBlow (f : Fu) (k : Nat) (x y : Int) : Prop := (k = 0 ∧ x = 0 ∧ y = 0) ∨ ∃ j : Nat, k = j + 1 ∧ x = blowNum f j ∧ y = blowDen f j
theorem LastBlow.range {f : Fu} (hf : f.Ok) {k : Nat} {x y : Int} (h : LastBlow f k x y) (hk : k ≤ 61) : 0 ≤ x ∧ x ≤ 1000000 ∧ 0 ≤ y ∧ y ≤ 250000 := by
  rcases h with ⟨_, rfl, rfl⟩ | ⟨j, hj, rfl, rfl⟩
  · omega
  · have := blow_range hf (a := j) (by omega) (by omega)
    omega
theorem LastBlow.less {f : Fu} (hf : f.Ok) {k : Nat} {x y : Int} (h : LastBlow f k x y) (hk : k ≤ 60) (hy : 0 < y) : blowNum f k * y < x * blowDen f k := by
  rcases h with ⟨_, rfl, rfl⟩ | ⟨j, hj, rfl, rfl⟩
  · omega
  · have hr := blow_range hf (a := j) (by omega) (by omega)
    have hj2 : f.rating < j := by
      rcases Int.lt_or_le f.rating j with h | h
      · exact h
      · have := (hr.2.2.2.2.2 h).1; omega
    exact blow_earlier hf (a := j) (b := k) (by omega) hj2 (by omega) (by omega)

set_option maxHeartbeats 4000000 in
theorem wiresPeaks_walk (g : Ga) (v : Value) (cs : List Cu) (f : Fu) (w : World) (hm : cs.length ≤ maxLen) (h : Cyc w w.heap.size v cs) :
    Calls Try.prog 7 #[.agg #[.int .i64 g.area, .int .i64 g.ohm, .int .i64 g.heat, .int .i64 g.cool, .int .i64 g.limit], v, .agg #[.int .i64 f.rating, .int .i64 f.melt]] w fun e w' => e = .returned (.bool true) ∧ Below w.heap.size w w' := by
  have H := hide h
  obtain ⟨A0, cap0, rfl⟩ := h.form
  clear h
  by_cases hn : 20 < cs.length
  · have hd : decide (20 < cs.length) = true := by simpa using hn
    go_enter Try.func7, Try.ntmps7
    go_wp2_with (first
      | (go_at_call 18; refine (far_any _ _ _ _ _ rfl hm).mono ?_; rw [hd]; rintro e w1 ⟨rfl, rfl⟩)
      | (go_at_call 17; refine (works_any _).mono ?_; rintro e w3 ⟨rfl, hB3⟩))
    go_ret
    exact ⟨rfl, (by repeat (first | exact Below.refl _ _ | assumption | refine Below.drew ?_ | refine Below.drewN ?_ _ | refine Below.allocT ?_ (Nat.le_refl _) _ | refine Below.setCell ?_ (by simp <;> omega) _ | refine Below.to ?_ (by assumption) (Nat.le_refl _)))⟩
  · have hd : decide (20 < cs.length) = false := by simpa using hn
    have hn' : cs.length ≤ 20 := by omega
    obtain ⟨pv, hpv⟩ : ∃ x, peakVal g cs = x := ⟨_, rfl⟩
    obtain ⟨pe, hpe⟩ : ∃ x, peakErr g cs = x := ⟨_, rfl⟩
    have HPV := hide hpv
    have HPE := hide hpe
    clear hpv hpe
    go_enter Try.func7, Try.ntmps7
    go_wp2_with (go_at_call 18; refine (far_any _ _ _ _ _ rfl hm).mono ?_; rw [hd]; rintro e w1 ⟨rfl, rfl⟩)
    obtain ⟨w0, hw0⟩ : ∃ w0 : World, (w.alloc (.cells #[.int .i64 g.area, .int .i64 g.ohm, .int .i64 g.heat, .int .i64 g.cool, .int .i64 g.limit] 23)).alloc (.cells #[.int .i64 f.rating, .int .i64 f.melt] 30) = w0 := ⟨_, rfl⟩
    have hg0 : GaugeAt w0 w.heap.size g := by unfold GaugeAt; rw [← hw0, heap_old _ _ _ (by simp), heap_new _ _ _ rfl]
    have hf0 : FuseAt w0 (w.heap.size + 1) f := by unfold FuseAt; rw [← hw0, heap_new _ _ _ (by simp)]
    have hB0 : Below w.heap.size w w0 := by rw [← hw0]; exact (by repeat (first | exact Below.refl _ _ | assumption | refine Below.drew ?_ | refine Below.drewN ?_ _ | refine Below.allocT ?_ (Nat.le_refl _) _ | refine Below.setCell ?_ (by simp <;> omega) _ | refine Below.to ?_ (by assumption) (Nat.le_refl _)))
    have HC0 : Hid (Cyc w0 w0.heap.size (.slice A0 cs.length cap0) cs) := (H.out.below hB0).more hB0.size
    have HG0 := hide hg0
    have HF0 := hide hf0
    have HB0 := hide hB0
    rw [hw0]
    obtain ⟨k0, k1, k2, k3, k4, k5⟩ := gauge5 hg0 (Below.refl _ w0)
    clear hg0 hw0 hB0 hf0
    go_region_held3 (fun w' => w'.cell? ⟨w.heap.size, 0, none⟩ = some (.int .i64 g.area) ∧ w'.cell? ⟨w.heap.size, 1, none⟩ = some (.int .i64 g.ohm) ∧ w'.cell? ⟨w.heap.size, 2, none⟩ = some (.int .i64 g.heat) ∧ w'.cell? ⟨w.heap.size, 3, none⟩ = some (.int .i64 g.cool) ∧ w'.cell? ⟨w.heap.size, 4, none⟩ = some (.int .i64 g.limit) ∧ Below w0.heap.size w0 w')
      (exact gauge5 HG0.out (by repeat (first | exact Below.refl _ _ | assumption | refine Below.drew ?_ | refine Below.drewN ?_ _ | refine Below.allocT ?_ (Nat.le_refl _) _ | refine Below.setCell ?_ (by simp <;> omega) _ | refine Below.to ?_ (by assumption) (Nat.le_refl _))))
      (first | (go_at_call 22; refine (cycle_any _ cs _ hn' (by exact HC0.out)).mono ?_; rintro e w1 ⟨v1, rfl, hc1, hB1⟩)
             | (go_at_call 28; refine (Peak_any g _ cs _ hn' (by exact hc1)).mono ?_; rw [HPV.out, HPE.out]; rintro e w2 ⟨rfl, hB2⟩))
    rename_i hh2
    obtain ⟨j0, j1, j2, j3, j4, hW2⟩ := hh2
    have HC2 : Hid (Cyc w2 w2.heap.size (.slice A0 cs.length cap0) cs) := HC0.out.up hW2
    have HW2 := hide hW2
    have HG2 : Hid (GaugeAt w2 w.heap.size g) := box_to HG0.out hW2
    clear k0 k1 k2 k3 k4 k5 hc1 hB1 hB2 hW2 j0 j1 j2 j3 j4
    by_cases hpe0 : pe = 0
    · have hpe1 : (pe == 0) = true := by simp [hpe0]
      have hgk : g.ok = true ∧ cycOk cs = true := by
        have h1 := HPE.out
        rw [hpe0] at h1
        unfold peakErr at h1
        cases hg : g.ok <;> cases hc : cycOk cs <;> simp [hg, hc] at h1 ⊢
      have hgo := Ga.ok_iff.1 hgk.1
      have hpv2 : peakI g cs g.limit = pv := by
        have h1 := HPV.out
        unfold peakVal at h1
        simpa [hgk.1, hgk.2] using h1
      have hr := peak_range hgo hgk.2 hgo.limit0
      rw [hpv2] at hr
      obtain ⟨hr1, hr2⟩ := hr
      have hl0 := hgo.limit0
      have hl1 := hgo.limit1
      have HPV2 := hide hpv2
      have HGK := hide hgk
      have HGO := hide hgo
      have HPE0 := hide hpe0
      clear hpv2 hgk hgo hpe0
      go_wp2_with fail
      go_loopw [9, 10] (fun most s wr => ∃ (k : Nat) (M : Int), k ≤ 61 ∧ s = .int .i64 k ∧ most = .int .i64 M ∧ 0 ≤ M ∧ M ≤ 1000000000 ∧ Hid (pv ≤ g.limit → M ≤ pv) ∧ Below w2.heap.size w2 wr) (fun _ s _ => 61 - (intOf s).toNat)
      case atStart => exact ⟨0, 0, by omega, rfl, rfl, by omega, by omega, fun _ => hr1, Below.refl _ _⟩
      case round =>
        obtain ⟨k, M, hk, rfl, rfl, hM0, hM1, hM, hB⟩ := hrel
        have HGR : Hid (GaugeAt wr w.heap.size g) := box_to HG2.out hB
        have HCR : Hid (Cyc wr wr.heap.size (.slice A0 cs.length cap0) cs) := HC2.out.up hB
        by_cases hlt : k < 61
        · have hkk := mul_range (show (0:Int) ≤ k by omega) (show (k:Int) ≤ 60 by omega) (show (0:Int) ≤ k by omega) (show (k:Int) ≤ 60 by omega)
          obtain ⟨hkk0, hkk1⟩ := hkk
          have hwrap : IntKind.i64.wrap ((k : Int) * k) = k * k := IntWalk.i64_in _ (by omega)
          have hfb : fromB ((k : Int) * k) 0 10000 = true := fromB_iff.2 ⟨by omega, by omega⟩
          have hre : riseErr g cs ((k : Int) * k) = 0 := by simp [riseErr, HGK.out.1, HGK.out.2, hfb]
          have hrv : riseVal g cs ((k : Int) * k) = runSt (warmI g) 0 (ups cs ((k : Int) * k).toNat) := by simp [riseVal, HGK.out.1, HGK.out.2, hfb]
          obtain ⟨rv, hrv2⟩ : ∃ rv, riseVal g cs ((k : Int) * k) = rv := ⟨_, rfl⟩
          have hrg := st_range HGO.out HGK.out.2 (Int.le_refl 0) ((k : Int) * k).toNat
          rw [← hrv, hrv2] at hrg
          obtain ⟨hrg0, hrg1⟩ := hrg
          have hrg2 : rv ≤ 1000000000 := by omega
          have HRVP : Hid (pv ≤ g.limit → rv ≤ pv) := by
            intro hpl
            have := peak_all HGO.out HGK.out.2 (limit := g.limit) (by rw [HPV2.out]; exact hpl) ((k : Int) * k).toNat
            rw [← hrv, hrv2, HPV2.out] at this
            exact this
          have HRE := hide hre
          have HRV := hide hrv2
          clear hre hrv hrv2 hfb hrg1
          go_wp2_with fail
          obtain ⟨k0, k1, k2, k3, k4, k5⟩ := gauge5 HGR.out (Below.refl _ wr)
          go_region_held3 (fun w' => w'.cell? ⟨w.heap.size, 0, none⟩ = some (.int .i64 g.area) ∧ w'.cell? ⟨w.heap.size, 1, none⟩ = some (.int .i64 g.ohm) ∧ w'.cell? ⟨w.heap.size, 2, none⟩ = some (.int .i64 g.heat) ∧ w'.cell? ⟨w.heap.size, 3, none⟩ = some (.int .i64 g.cool) ∧ w'.cell? ⟨w.heap.size, 4, none⟩ = some (.int .i64 g.limit) ∧ Below wr.heap.size wr w')
            (exact gauge5 HGR.out (by repeat (first | exact Below.refl _ _ | assumption | refine Below.drew ?_ | refine Below.drewN ?_ _ | refine Below.allocT ?_ (Nat.le_refl _) _ | refine Below.setCell ?_ (by simp <;> omega) _ | refine Below.to ?_ (by assumption) (Nat.le_refl _))))
            (first | (go_at_call 22; refine (cycle_any _ cs _ hn' (by exact HCR.out)).mono ?_; rintro e w3 ⟨v3, rfl, hc3, hB3⟩)
                   | (go_at_call 26; refine (Rise_any g _ cs ((k : Int) * k) _ hn' (by exact hc3)).mono ?_; rw [HRV.out, HRE.out]; rintro e w4 ⟨rfl, hB4⟩))
          rename_i hh4
          obtain ⟨j0, j1, j2, j3, j4, hW4⟩ := hh4
          have HB4' := hide (Below.to hB hW4 (Nat.le_refl _))
          clear k0 k1 k2 k3 k4 k5 hc3 hB3 hB4 hW4 j0 j1 j2 j3 j4
          by_cases hmx : M ≤ rv
          · go_wp2_with fail
            go_roundw
            case rel => exact ⟨k + 1, rv, by omega, by go_num, congrArg (Value.int IntKind.i64) (by first | rfl | (split <;> omega)), hrg0, hrg2, HRVP.out, HB4'.out⟩
            case measure => simp [intOf]; omega
          · go_wp2_with fail
            go_roundw
            case rel => exact ⟨k + 1, M, by omega, by go_num, congrArg (Value.int IntKind.i64) (by first | rfl | (split <;> omega)), hM0, hM1, hM.out, HB4'.out⟩
            case measure => simp [intOf]; omega
        · have HWZ : Hid (Below w.heap.size w wr) := Below.to (Below.to HB0.out HW2.out (Nat.le_refl _)) hB (Nat.le_refl _)
          have HFZ : Hid (FuseAt wr (w.heap.size + 1) f) := box_to (box_to HF0.out HW2.out) hB
          have q4 : wr.cell? ⟨w.heap.size, 4, none⟩ = some (.int .i64 g.limit) := cellOf HGR.out 4
          obtain ⟨wz, rfl⟩ : ∃ wz : World, wz = wr := ⟨_, rfl⟩
          clear hB
          by_cases hpl : pv ≤ g.limit
          · have hMp := hM.out hpl
            go_wp2_with fail
            clear q4
            by_cases hfk : f.ok = true
            · have HFK := hide (Fu.ok_iff.1 hfk)
              go_wp2_with fail
              go_loopw [13, 14, 15] (fun nu de i wr => ∃ (k : Nat) (x y : Int), k ≤ 61 ∧ i = .int .i64 k ∧ nu = .int .i64 x ∧ de = .int .i64 y ∧ Hid (LastBlow f k x y) ∧ Below wz.heap.size wz wr) (fun _ _ i _ => 61 - (intOf i).toNat)
              case atStart => exact ⟨0, 0, 0, by omega, rfl, rfl, rfl, .inl ⟨rfl, rfl, rfl⟩, Below.refl _ _⟩
              case round =>
                obtain ⟨k, x, y, hk, rfl, rfl, rfl, hlb, hB⟩ := hrel
                by_cases hlt : k < 61
                · obtain ⟨x0, x1, y0, y1⟩ := hlb.out.range HFK.out hk
                  have hbr := blow_range HFK.out (a := k) (by omega) (by omega)
                  have hless := fun hy : 0 < y => hlb.out.less HFK.out (by omega) hy
                  obtain ⟨a, ha⟩ : ∃ a, blowNum f k = a := ⟨_, rfl⟩
                  obtain ⟨b, hb⟩ : ∃ b, blowDen f k = b := ⟨_, rfl⟩
                  rw [ha, hb] at hbr hless
                  have hfb : fromB (k : Int) 0 500 = true := fromB_iff.2 ⟨by omega, by omega⟩
                  have hbn : Hid (blowN f k = a ∧ blowD f k = b ∧ blowErr f k = 0) := by
                    refine ⟨?_, ?_, ?_⟩
                    · simp [blowN, hfk, hfb, ha]
                    · simp [blowD, hfk, hfb, hb]
                    · simp [blowErr, hfk, hfb]
                  have HAB := hide (And.intro ha hb)
                  clear ha hb hfb
                  obtain ⟨a0, a1, b0, b1, hpos, hzero⟩ := hbr
                  obtain ⟨p1, p2⟩ := mul_range a0 a1 y0 y1
                  obtain ⟨p3, p4⟩ := mul_range x0 x1 b0 b1
                  have HFR : Hid (FuseAt wr (w.heap.size + 1) f) := box_to HFZ.out hB
                  have c0 : wr.cell? ⟨w.heap.size + 1, 0, none⟩ = some (.int .i64 f.rating) := cellOf HFR.out 0
                  have c1 : wr.cell? ⟨w.heap.size + 1, 1, none⟩ = some (.int .i64 f.melt) := cellOf HFR.out 1
                  by_cases hrat : f.rating < (k : Int)
                  · obtain ⟨hb1, ha1⟩ := hpos hrat
                    clear hpos hzero
                    by_cases hy : 0 < y
                    · have hlz := hless hy
                      clear hless
                      go_wp2_with fail
                      refine (Blow_any f k _).mono ?_
                      rw [hbn.out.1, hbn.out.2.1, hbn.out.2.2]
                      rintro e w6 ⟨rfl, hB6⟩
                      have hF6 := box_to HFR.out hB6
                      have d0 := cellOf hF6 0
                      have d1 := cellOf hF6 1
                      clear hF6 c0 c1
                      go_wp2_with fail
                      go_roundw
                      case rel => exact ⟨k + 1, a, b, by omega, by go_num, rfl, rfl, .inr ⟨k, rfl, HAB.out.1.symm, HAB.out.2.symm⟩, (by repeat (first | exact Below.refl _ _ | assumption | refine Below.drew ?_ | refine Below.drewN ?_ _ | refine Below.allocT ?_ (Nat.le_refl _) _ | refine Below.setCell ?_ (by simp <;> omega) _ | refine Below.to ?_ (by assumption) (Nat.le_refl _)))⟩
                      case measure => simp [intOf]; omega
                    · clear hless
                      go_wp2_with fail
                      refine (Blow_any f k _).mono ?_
                      rw [hbn.out.1, hbn.out.2.1, hbn.out.2.2]
                      rintro e w6 ⟨rfl, hB6⟩
                      have hF6 := box_to HFR.out hB6
                      have d0 := cellOf hF6 0
                      have d1 := cellOf hF6 1
                      clear hF6 c0 c1
                      go_wp2_with fail
                      go_roundw
                      case rel => exact ⟨k + 1, a, b, by omega, by go_num, rfl, rfl, .inr ⟨k, rfl, HAB.out.1.symm, HAB.out.2.symm⟩, (by repeat (first | exact Below.refl _ _ | assumption | refine Below.drew ?_ | refine Below.drewN ?_ _ | refine Below.allocT ?_ (Nat.le_refl _) _ | refine Below.setCell ?_ (by simp <;> omega) _ | refine Below.to ?_ (by assumption) (Nat.le_refl _)))⟩
                      case measure => simp [intOf]; omega
                  · obtain ⟨hb1, ha1⟩ := hzero (by omega)
                    clear hpos hzero
                    have hy : ¬ 0 < y := by
                      intro hy
                      have := hless hy
                      rw [ha1, hb1] at this
                      simp at this
                    clear hless
                    subst hb1 ha1
                    go_wp2_with fail
                    refine (Blow_any f k _).mono ?_
                    rw [hbn.out.1, hbn.out.2.1, hbn.out.2.2]
                    rintro e w6 ⟨rfl, hB6⟩
                    have hF6 := box_to HFR.out hB6
                    have d0 := cellOf hF6 0
                    have d1 := cellOf hF6 1
                    clear hF6 c0 c1
                    go_wp2_with fail
                    go_roundw
                    case rel => exact ⟨k + 1, 0, 0, by omega, by go_num, rfl, rfl, .inr ⟨k, rfl, HAB.out.1.symm, HAB.out.2.symm⟩, (by repeat (first | exact Below.refl _ _ | assumption | refine Below.drew ?_ | refine Below.drewN ?_ _ | refine Below.allocT ?_ (Nat.le_refl _) _ | refine Below.setCell ?_ (by simp <;> omega) _ | refine Below.to ?_ (by assumption) (Nat.le_refl _)))⟩
                    case measure => simp [intOf]; omega
                · go_wp2_with (go_at_call 17; refine (works_any _).mono ?_; rintro e w7 ⟨rfl, hB7⟩)
                  go_ret
                  exact ⟨rfl, Below.to (Below.to HWZ.out hB (Nat.le_refl _)) hB7 (Nat.le_refl _)⟩
            · have hbe : blowErr f 0 = 72 := by simp [blowErr, hfk]
              have HBE := hide hbe
              clear hbe
              go_wp2_with fail
              go_loopw [13, 14, 15] (fun _ _ i wr => i = .int .i64 0 ∧ wz = wr) (fun _ _ _ _ => 0)
              case atStart => exact ⟨rfl, rfl⟩
              case round =>
                obtain ⟨rfl, rfl⟩ := hrel
                have c0 : wz.cell? ⟨w.heap.size + 1, 0, none⟩ = some (.int .i64 f.rating) := cellOf HFZ.out 0
                have c1 : wz.cell? ⟨w.heap.size + 1, 1, none⟩ = some (.int .i64 f.melt) := cellOf HFZ.out 1
                go_wp2_with fail
                refine (Blow_any f 0 _).mono ?_
                rw [HBE.out]
                rintro e w6 ⟨rfl, hB6⟩
                go_wp2_with (go_at_call 17; refine (works_any _).mono ?_; rintro e w7 ⟨rfl, hB7⟩)
                go_ret
                exact ⟨rfl, Below.to (Below.to HWZ.out hB6 (Nat.le_refl _)) hB7 (Nat.le_refl _)⟩
          · go_wp2_with fail
            clear q4
            by_cases hfk : f.ok = true
            · have HFK := hide (Fu.ok_iff.1 hfk)
              go_wp2_with fail
              go_loopw [13, 14, 15] (fun nu de i wr => ∃ (k : Nat) (x y : Int), k ≤ 61 ∧ i = .int .i64 k ∧ nu = .int .i64 x ∧ de = .int .i64 y ∧ Hid (LastBlow f k x y) ∧ Below wz.heap.size wz wr) (fun _ _ i _ => 61 - (intOf i).toNat)
              case atStart => exact ⟨0, 0, 0, by omega, rfl, rfl, rfl, .inl ⟨rfl, rfl, rfl⟩, Below.refl _ _⟩
              case round =>
                obtain ⟨k, x, y, hk, rfl, rfl, rfl, hlb, hB⟩ := hrel
                by_cases hlt : k < 61
                · obtain ⟨x0, x1, y0, y1⟩ := hlb.out.range HFK.out hk
                  have hbr := blow_range HFK.out (a := k) (by omega) (by omega)
                  have hless := fun hy : 0 < y => hlb.out.less HFK.out (by omega) hy
                  obtain ⟨a, ha⟩ : ∃ a, blowNum f k = a := ⟨_, rfl⟩
                  obtain ⟨b, hb⟩ : ∃ b, blowDen f k = b := ⟨_, rfl⟩
                  rw [ha, hb] at hbr hless
                  have hfb : fromB (k : Int) 0 500 = true := fromB_iff.2 ⟨by omega, by omega⟩
                  have hbn : Hid (blowN f k = a ∧ blowD f k = b ∧ blowErr f k = 0) := by
                    refine ⟨?_, ?_, ?_⟩
                    · simp [blowN, hfk, hfb, ha]
                    · simp [blowD, hfk, hfb, hb]
                    · simp [blowErr, hfk, hfb]
                  have HAB := hide (And.intro ha hb)
                  clear ha hb hfb
                  obtain ⟨a0, a1, b0, b1, hpos, hzero⟩ := hbr
                  obtain ⟨p1, p2⟩ := mul_range a0 a1 y0 y1
                  obtain ⟨p3, p4⟩ := mul_range x0 x1 b0 b1
                  have HFR : Hid (FuseAt wr (w.heap.size + 1) f) := box_to HFZ.out hB
                  have c0 : wr.cell? ⟨w.heap.size + 1, 0, none⟩ = some (.int .i64 f.rating) := cellOf HFR.out 0
                  have c1 : wr.cell? ⟨w.heap.size + 1, 1, none⟩ = some (.int .i64 f.melt) := cellOf HFR.out 1
                  by_cases hrat : f.rating < (k : Int)
                  · obtain ⟨hb1, ha1⟩ := hpos hrat
                    clear hpos hzero
                    by_cases hy : 0 < y
                    · have hlz := hless hy
                      clear hless
                      go_wp2_with fail
                      refine (Blow_any f k _).mono ?_
                      rw [hbn.out.1, hbn.out.2.1, hbn.out.2.2]
                      rintro e w6 ⟨rfl, hB6⟩
                      have hF6 := box_to HFR.out hB6
                      have d0 := cellOf hF6 0
                      have d1 := cellOf hF6 1
                      clear hF6 c0 c1
                      go_wp2_with fail
                      go_roundw
                      case rel => exact ⟨k + 1, a, b, by omega, by go_num, rfl, rfl, .inr ⟨k, rfl, HAB.out.1.symm, HAB.out.2.symm⟩, (by repeat (first | exact Below.refl _ _ | assumption | refine Below.drew ?_ | refine Below.drewN ?_ _ | refine Below.allocT ?_ (Nat.le_refl _) _ | refine Below.setCell ?_ (by simp <;> omega) _ | refine Below.to ?_ (by assumption) (Nat.le_refl _)))⟩
                      case measure => simp [intOf]; omega
                    · clear hless
                      go_wp2_with fail
                      refine (Blow_any f k _).mono ?_
                      rw [hbn.out.1, hbn.out.2.1, hbn.out.2.2]
                      rintro e w6 ⟨rfl, hB6⟩
                      have hF6 := box_to HFR.out hB6
                      have d0 := cellOf hF6 0
                      have d1 := cellOf hF6 1
                      clear hF6 c0 c1
                      go_wp2_with fail
                      go_roundw
                      case rel => exact ⟨k + 1, a, b, by omega, by go_num, rfl, rfl, .inr ⟨k, rfl, HAB.out.1.symm, HAB.out.2.symm⟩, (by repeat (first | exact Below.refl _ _ | assumption | refine Below.drew ?_ | refine Below.drewN ?_ _ | refine Below.allocT ?_ (Nat.le_refl _) _ | refine Below.setCell ?_ (by simp <;> omega) _ | refine Below.to ?_ (by assumption) (Nat.le_refl _)))⟩
                      case measure => simp [intOf]; omega
                  · obtain ⟨hb1, ha1⟩ := hzero (by omega)
                    clear hpos hzero
                    have hy : ¬ 0 < y := by
                      intro hy
                      have := hless hy
                      rw [ha1, hb1] at this
                      simp at this
                    clear hless
                    subst hb1 ha1
                    go_wp2_with fail
                    refine (Blow_any f k _).mono ?_
                    rw [hbn.out.1, hbn.out.2.1, hbn.out.2.2]
                    rintro e w6 ⟨rfl, hB6⟩
                    have hF6 := box_to HFR.out hB6
                    have d0 := cellOf hF6 0
                    have d1 := cellOf hF6 1
                    clear hF6 c0 c1
                    go_wp2_with fail
                    go_roundw
                    case rel => exact ⟨k + 1, 0, 0, by omega, by go_num, rfl, rfl, .inr ⟨k, rfl, HAB.out.1.symm, HAB.out.2.symm⟩, (by repeat (first | exact Below.refl _ _ | assumption | refine Below.drew ?_ | refine Below.drewN ?_ _ | refine Below.allocT ?_ (Nat.le_refl _) _ | refine Below.setCell ?_ (by simp <;> omega) _ | refine Below.to ?_ (by assumption) (Nat.le_refl _)))⟩
                    case measure => simp [intOf]; omega
                · go_wp2_with (go_at_call 17; refine (works_any _).mono ?_; rintro e w7 ⟨rfl, hB7⟩)
                  go_ret
                  exact ⟨rfl, Below.to (Below.to HWZ.out hB (Nat.le_refl _)) hB7 (Nat.le_refl _)⟩
            · have hbe : blowErr f 0 = 72 := by simp [blowErr, hfk]
              have HBE := hide hbe
              clear hbe
              go_wp2_with fail
              go_loopw [13, 14, 15] (fun _ _ i wr => i = .int .i64 0 ∧ wz = wr) (fun _ _ _ _ => 0)
              case atStart => exact ⟨rfl, rfl⟩
              case round =>
                obtain ⟨rfl, rfl⟩ := hrel
                have c0 : wz.cell? ⟨w.heap.size + 1, 0, none⟩ = some (.int .i64 f.rating) := cellOf HFZ.out 0
                have c1 : wz.cell? ⟨w.heap.size + 1, 1, none⟩ = some (.int .i64 f.melt) := cellOf HFZ.out 1
                go_wp2_with fail
                refine (Blow_any f 0 _).mono ?_
                rw [HBE.out]
                rintro e w6 ⟨rfl, hB6⟩
                go_wp2_with (go_at_call 17; refine (works_any _).mono ?_; rintro e w7 ⟨rfl, hB7⟩)
                go_ret
                exact ⟨rfl, Below.to (Below.to HWZ.out hB6 (Nat.le_refl _)) hB7 (Nat.le_refl _)⟩
    · have hpe1 : (pe == 0) = false := by simp [hpe0]
      have HWZ : Hid (Below w.heap.size w w2) := Below.to HB0.out HW2.out (Nat.le_refl _)
      have HFZ : Hid (FuseAt w2 (w.heap.size + 1) f) := box_to HF0.out HW2.out
      obtain ⟨wz, rfl⟩ : ∃ wz : World, wz = w2 := ⟨_, rfl⟩
      by_cases hfk : f.ok = true
      · have HFK := hide (Fu.ok_iff.1 hfk)
        go_wp2_with fail
        go_loopw [13, 14, 15] (fun nu de i wr => ∃ (k : Nat) (x y : Int), k ≤ 61 ∧ i = .int .i64 k ∧ nu = .int .i64 x ∧ de = .int .i64 y ∧ Hid (LastBlow f k x y) ∧ Below wz.heap.size wz wr) (fun _ _ i _ => 61 - (intOf i).toNat)
        case atStart => exact ⟨0, 0, 0, by omega, rfl, rfl, rfl, .inl ⟨rfl, rfl, rfl⟩, Below.refl _ _⟩
        case round =>
          obtain ⟨k, x, y, hk, rfl, rfl, rfl, hlb, hB⟩ := hrel
          by_cases hlt : k < 61
          · obtain ⟨x0, x1, y0, y1⟩ := hlb.out.range HFK.out hk
            have hbr := blow_range HFK.out (a := k) (by omega) (by omega)
            have hless := fun hy : 0 < y => hlb.out.less HFK.out (by omega) hy
            obtain ⟨a, ha⟩ : ∃ a, blowNum f k = a := ⟨_, rfl⟩
            obtain ⟨b, hb⟩ : ∃ b, blowDen f k = b := ⟨_, rfl⟩
            rw [ha, hb] at hbr hless
            have hfb : fromB (k : Int) 0 500 = true := fromB_iff.2 ⟨by omega, by omega⟩
            have hbn : Hid (blowN f k = a ∧ blowD f k = b ∧ blowErr f k = 0) := by
              refine ⟨?_, ?_, ?_⟩
              · simp [blowN, hfk, hfb, ha]
              · simp [blowD, hfk, hfb, hb]
              · simp [blowErr, hfk, hfb]
            have HAB := hide (And.intro ha hb)
            clear ha hb hfb
            obtain ⟨a0, a1, b0, b1, hpos, hzero⟩ := hbr
            obtain ⟨p1, p2⟩ := mul_range a0 a1 y0 y1
            obtain ⟨p3, p4⟩ := mul_range x0 x1 b0 b1
            have HFR : Hid (FuseAt wr (w.heap.size + 1) f) := box_to HFZ.out hB
            have c0 : wr.cell? ⟨w.heap.size + 1, 0, none⟩ = some (.int .i64 f.rating) := cellOf HFR.out 0
            have c1 : wr.cell? ⟨w.heap.size + 1, 1, none⟩ = some (.int .i64 f.melt) := cellOf HFR.out 1
            by_cases hrat : f.rating < (k : Int)
            · obtain ⟨hb1, ha1⟩ := hpos hrat
              clear hpos hzero
              by_cases hy : 0 < y
              · have hlz := hless hy
                clear hless
                go_wp2_with fail
                refine (Blow_any f k _).mono ?_
                rw [hbn.out.1, hbn.out.2.1, hbn.out.2.2]
                rintro e w6 ⟨rfl, hB6⟩
                have hF6 := box_to HFR.out hB6
                have d0 := cellOf hF6 0
                have d1 := cellOf hF6 1
                clear hF6 c0 c1
                go_wp2_with fail
                go_roundw
                case rel => exact ⟨k + 1, a, b, by omega, by go_num, rfl, rfl, .inr ⟨k, rfl, HAB.out.1.symm, HAB.out.2.symm⟩, (by repeat (first | exact Below.refl _ _ | assumption | refine Below.drew ?_ | refine Below.drewN ?_ _ | refine Below.allocT ?_ (Nat.le_refl _) _ | refine Below.setCell ?_ (by simp <;> omega) _ | refine Below.to ?_ (by assumption) (Nat.le_refl _)))⟩
                case measure => simp [intOf]; omega
              · clear hless
                go_wp2_with fail
                refine (Blow_any f k _).mono ?_
                rw [hbn.out.1, hbn.out.2.1, hbn.out.2.2]
                rintro e w6 ⟨rfl, hB6⟩
                have hF6 := box_to HFR.out hB6
                have d0 := cellOf hF6 0
                have d1 := cellOf hF6 1
                clear hF6 c0 c1
                go_wp2_with fail
                go_roundw
                case rel => exact ⟨k + 1, a, b, by omega, by go_num, rfl, rfl, .inr ⟨k, rfl, HAB.out.1.symm, HAB.out.2.symm⟩, (by repeat (first | exact Below.refl _ _ | assumption | refine Below.drew ?_ | refine Below.drewN ?_ _ | refine Below.allocT ?_ (Nat.le_refl _) _ | refine Below.setCell ?_ (by simp <;> omega) _ | refine Below.to ?_ (by assumption) (Nat.le_refl _)))⟩
                case measure => simp [intOf]; omega
            · obtain ⟨hb1, ha1⟩ := hzero (by omega)
              clear hpos hzero
              have hy : ¬ 0 < y := by
                intro hy
                have := hless hy
                rw [ha1, hb1] at this
                simp at this
              clear hless
              subst hb1 ha1
              go_wp2_with fail
              refine (Blow_any f k _).mono ?_
              rw [hbn.out.1, hbn.out.2.1, hbn.out.2.2]
              rintro e w6 ⟨rfl, hB6⟩
              have hF6 := box_to HFR.out hB6
              have d0 := cellOf hF6 0
              have d1 := cellOf hF6 1
              clear hF6 c0 c1
              go_wp2_with fail
              go_roundw
              case rel => exact ⟨k + 1, 0, 0, by omega, by go_num, rfl, rfl, .inr ⟨k, rfl, HAB.out.1.symm, HAB.out.2.symm⟩, (by repeat (first | exact Below.refl _ _ | assumption | refine Below.drew ?_ | refine Below.drewN ?_ _ | refine Below.allocT ?_ (Nat.le_refl _) _ | refine Below.setCell ?_ (by simp <;> omega) _ | refine Below.to ?_ (by assumption) (Nat.le_refl _)))⟩
              case measure => simp [intOf]; omega
          · go_wp2_with (go_at_call 17; refine (works_any _).mono ?_; rintro e w7 ⟨rfl, hB7⟩)
            go_ret
            exact ⟨rfl, Below.to (Below.to HWZ.out hB (Nat.le_refl _)) hB7 (Nat.le_refl _)⟩
      · have hbe : blowErr f 0 = 72 := by simp [blowErr, hfk]
        have HBE := hide hbe
        clear hbe
        go_wp2_with fail
        go_loopw [13, 14, 15] (fun _ _ i wr => i = .int .i64 0 ∧ wz = wr) (fun _ _ _ _ => 0)
        case atStart => exact ⟨rfl, rfl⟩
        case round =>
          obtain ⟨rfl, rfl⟩ := hrel
          have c0 : wz.cell? ⟨w.heap.size + 1, 0, none⟩ = some (.int .i64 f.rating) := cellOf HFZ.out 0
          have c1 : wz.cell? ⟨w.heap.size + 1, 1, none⟩ = some (.int .i64 f.melt) := cellOf HFZ.out 1
          go_wp2_with fail
          refine (Blow_any f 0 _).mono ?_
          rw [HBE.out]
          rintro e w6 ⟨rfl, hB6⟩
          go_wp2_with (go_at_call 17; refine (works_any _).mono ?_; rintro e w7 ⟨rfl, hB7⟩)
          go_ret
          exact ⟨rfl, Below.to (Below.to HWZ.out hB6 (Nat.le_refl _)) hB7 (Nat.le_refl _)⟩

theorem own_WiresPeaks : ownKnob Try.prog.godebug = none := by kernel_rfl
theorem laid_WiresPeaks : laidOutB Try.prog = true := by kernel_rfl
theorem par_WiresPeaks : ∀ t ∈ Try.f7.params.toList, Try.prog.readableRec t = true ∧ t < Try.prog.types.size := by
  rw [Try.params7]
  intro t ht
  simp only [List.mem_cons, List.not_mem_nil, or_false] at ht
  rcases ht with rfl | rfl | rfl <;> exact ⟨by kernel_rfl, of_decide_eq_true (by kernel_rfl)⟩
set_option maxRecDepth 100000 in
theorem wiresPeaks_lifted (os : Os) (started : os.Started) (H : Type) (enc : TypeId × Value → H) :
    ReturnsInHanded {} Try.checked os 7 .any (Rows.wiresPeaksSpec.pre6 enc Try.prog Try.f7 Rows.wiresPeaksRow.domain false) (Rows.wiresPeaksSpec.post enc Try.prog Try.f7 false true false false) := by
  refine returnsInHanded_of_change (C := Try.checked) own_WiresPeaks started (by kernel_rfl) Try.func7
    (ChangeSpec.witness6 (enc := enc) (C := Try.checked) false ⟨#[], #[.agg #[.int .i64 0, .int .i64 0, .int .i64 0, .int .i64 0, .int .i64 0], .slice none 0 0, .agg #[.int .i64 0, .int .i64 0]], []⟩ 8 (by kernel_rfl) (by kernel_rfl) (by kernel_rfl) (by kernel_rfl)) ?_
  intro W base args ds gs before hval0 hW hcnd _
  have hval : ∀ (j : Nat) t v, Try.f7.params[j]? = some t → args[j]? = some v → Value.okWide Try.prog W .any base t v := hval0
  have hW' := hW
  obtain ⟨p, q, hA0, hV, rfl, hfz, hnd⟩ := hW
  have hA : DataW.TrodAll enc Try.prog W 0 (fun _ => true) true Try.f7.params.toList args.toList ds p := hA0
  have hAll := hA
  have hltp : ∀ x ∈ p, x.block < W.heap.size := fun x hx => hW'.lt x (List.mem_append_left _ hx)
  rw [Try.params7] at hA hval
  obtain ⟨v0, v1, v2, d0, d1, d2, p0, p1, p2, rfl, rfl, rfl, h0, h1, h2⟩ := trodAll_three hA
  obtain ⟨rfl, rfl⟩ := trodVars_none hV
  obtain ⟨g, rfl⟩ := open_gauge (hval 0 23 v0 rfl rfl) h0
  obtain ⟨cs, hcy, hcl, _⟩ := open_cycle (hval 1 31 v1 rfl rfl) h1
  obtain ⟨f, rfl⟩ := open_fuse (hval 2 30 v2 rfl rfl) h2
  refine (wiresPeaks_walk g v1 cs f W hcl hcy).mono fun e W2 ⟨he, hb⟩ => ?_
  subst he
  exact ⟨_, rfl, post_of_below (pv := []) hW' (fun _ _ _ => trodAll_mk1 (shut_bool Try.underlying4 _)) (fun sp hsp => trodAll_stays laid_WiresPeaks hb sp _ _ _ _ par_WiresPeaks hAll hltp (fun x hx => hsp x (List.mem_append_left _ hx))) (fun _ _ => rfl) rfl hb
    (ok_one (by kernel_rfl) rfl (okWide_bool_mk Try.underlying4 _))⟩
theorem wiresPeaks_holds : Rows.WiresPeaksSaid :=
  OpenClaim.holds_of_wide 7 Try.f7 rfl rfl rfl rfl rfl rfl rfl ⟨rfl, rfl, rfl, rfl, rfl⟩ rfl rfl rfl rfl rfl (by kernel_rfl) Try.func7 (by kernel_rfl)
    (of_decide_eq_true (by kernel_rfl)) (by unfold Func.isWrapper; first | (rw [if_pos (by decide +kernel)]; kernel_rfl) | (rw [if_neg (by decide +kernel)]; exact ⟨rfl, rfl⟩))
    (fun os started H enc _ => wiresPeaks_lifted os started H enc)
#print axioms wiresPeaks_holds

end Go.Proofs.Ytejjjijaojkohaa

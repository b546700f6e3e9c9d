/- Part 35 of this claim's texts: walks and plain laws. -/
import Derived.Test.YtehadoecnmfeoaaGreatRows
import Derived.Test.YtehadoecnmfeoaaGreatGBV32
import Derived.Test.YtehadoecnmfeoaaGreatGBV34
import Derived.Test.YtehadoecnmfeoaaGreatGBV15
import Derived.Deep.RegionHeld3
import Derived.Deep.DrawnRows
import Derived.Test.YtehadoecnmfeoaaGreatGBV3
import Derived.Test.YtehadoecnmfeoaaGreatGBV28
import Derived.Test.YtehadoecnmfeoaaGreatGBV30
import Derived.Test.YtehadoecnmfeoaaGreatGBV14
import Derived.Deep.DeepMust
import Derived.Test.YtehadoecnmfeoaaGreatGBV13
import Derived.Test.YtehadoecnmfeoaaGreatGBV20
import Derived.Test.YtehadoecnmfeoaaGreatGBV9
import Derived.Test.YtehadoecnmfeoaaGreatGBV21
/- The elder Check: walk. -/
namespace Go.Proofs.YtehadoecnmfeoaaGreat
open Go.RowKit
set_option linter.unusedVariables false
set_option linter.unusedSimpArgs false
theorem treE_zero {l : Lo} (h : treE l = 0) : ¬ (l.ss.length = 0 ∨ l.us.length + 1 ≠ l.ss.length) ∧ l.us.all (Ru.ok l.ss) = true ∧ l.full = true := by
  unfold treE at h
  by_cases h1 : l.ss.length = 0 ∨ l.us.length + 1 ≠ l.ss.length
  · rw [if_pos h1] at h; omega
  rw [if_neg h1] at h
  by_cases h2 : l.us.all (Ru.ok l.ss) = false
  · rw [if_pos h2] at h; omega
  rw [if_neg h2] at h
  by_cases h3 : l.full = false
  · rw [if_pos h3] at h; omega
  exact ⟨h1, by simpa using h2, by simpa using h3⟩
theorem err_tree {l : Lo} (h : l.m.err = 0) (h2 : l.many = false) (h3 : l.ss.all Sp.ok = true) (h4 : treE l ≠ 0) : l.err = treE l := by
  unfold treE at *
  unfold Lo.err
  rw [if_neg (by simp [h]), if_neg (by simp [h2]), if_neg (by simp [h3])]
  by_cases h5 : l.ss.length = 0 ∨ l.us.length + 1 ≠ l.ss.length
  · rw [if_pos h5, if_pos h5]
  rw [if_neg h5, if_neg h5] at *
  by_cases h6 : l.us.all (Ru.ok l.ss) = false
  · rw [if_pos h6, if_pos h6]
  rw [if_neg h6, if_neg h6] at *
  by_cases h7 : l.full = false
  · rw [if_pos h7, if_pos h7]
  rw [if_neg h7] at h4
  exact absurd rfl h4
set_option maxRecDepth 100000 in
set_option maxHeartbeats 8000000 in
theorem rCheck_any (A0 A1 A2 A3 A4 A5 : Option Addr) (q0 q1 q2 q3 q4 q5 : Nat) (l : Lo) (w : World) (hs : SizedL l) (h : LoA w w.heap.size A0 A1 A2 A3 A4 A5 q0 q1 q2 q3 q4 q5 l) :
    Calls Tryz.prog 67 #[.agg #[.slice A0 l.m.opts.length q0, .slice A1 l.m.rules.length q1, .slice A2 l.ss.length q2, .slice A3 l.us.length q3, .slice A4 l.ps.length q4, .slice A5 l.ws.length q5]] w fun e w' => e = .returned (.int .i64 l.err) ∧ Below w.heap.size w w' := by
  have H := hide h
  have HS := hide hs
  clear h hs
  go_enter Tryz.func67, Tryz.ntmps67
  go_upto_region 1 with (fail)
  generalize hw0 : World.alloc _ _ = w0
  obtain ⟨hb0, hB0, hs0⟩ := alloc1 hw0
  have HL0 : Hid (LoBox w0 w.heap.size A0 A1 A2 A3 A4 A5 q0 q1 q2 q3 q4 q5 l) := hb0
  have HB0 := hide hB0
  have c0 := cellOf hb0 0; have c1 := cellOf hb0 1; have c2 := cellOf hb0 2; have c3 := cellOf hb0 3; have c4 := cellOf hb0 4; have c5 := cellOf hb0 5
  have hlb := box_lt hb0
  have hck := rCheckModel_any l.m _ _ w0 HS.out.m (H.out.up hB0).m
  have HCK := hide hck
  clear hw0 hb0 hB0 hs0 hck
  by_cases he : l.m.err = 0
  case neg =>
    obtain ⟨z, hz⟩ : ∃ z, l.m.err = z := ⟨_, rfl⟩
    have hz1 : (z != 0) = true := by rw [← hz]; simpa using he
    have hz2 : l.err = z := by rw [err_m he, hz]
    have HZ := hide hz
    have HZ2 := hide hz2
    clear hz hz2 he
    go_wp2_with (go_at_call 151; refine HCK.out.mono ?_; rw [HZ.out]; rintro e w1 ⟨rfl, hB1⟩)
    go_ret
    exact ⟨ret_int HZ2.out.symm, Below.to HB0.out hB1 (Nat.le_refl _)⟩
  case pos =>
  have HE := hide he
  clear he
  go_upto_region 4 with (go_at_call 151; refine HCK.out.mono ?_; rw [HE.out]; rintro e w1 ⟨rfl, hB1⟩; have d0 := cellOf (HL0.out.to hB1) 0; have d1 := cellOf (HL0.out.to hB1) 1; have d2 := cellOf (HL0.out.to hB1) 2; have d3 := cellOf (HL0.out.to hB1) 3; have d4 := cellOf (HL0.out.to hB1) 4; have d5 := cellOf (HL0.out.to hB1) 5; have hlb1 := box_lt (HL0.out.to hB1); have HL1 := hide (HL0.out.to hB1); have HB1 := hide (Below.to HB0.out hB1 (Nat.le_refl _)); clear hB1 c0 c1 c2 c3 c4 c5 hlb)
  by_cases t0 : (40 : Int) < (l.ss.length : Int)
  · have hz2 := err_many HE.out (show l.many = true by unfold Lo.many; rw [decide_eq_true (by omega : 40 < l.ss.length)]; simp)
    have HZ2 := hide hz2
    clear hz2
    go_wp2_with fail
    go_ret
    exact ⟨ret_int HZ2.out.symm, HB1.out⟩
  by_cases t1 : (40 : Int) < (l.us.length : Int)
  · have hz2 := err_many HE.out (show l.many = true by unfold Lo.many; rw [decide_eq_true (by omega : 40 < l.us.length)]; simp)
    have HZ2 := hide hz2
    clear hz2
    go_wp2_with fail
    go_ret
    exact ⟨ret_int HZ2.out.symm, HB1.out⟩
  by_cases t2 : (30 : Int) < (l.ps.length : Int)
  · have hz2 := err_many HE.out (show l.many = true by unfold Lo.many; rw [decide_eq_true (by omega : 30 < l.ps.length)]; simp)
    have HZ2 := hide hz2
    clear hz2
    go_wp2_with fail
    go_ret
    exact ⟨ret_int HZ2.out.symm, HB1.out⟩
  by_cases t3 : (60 : Int) < (l.ws.length : Int)
  · have hz2 := err_many HE.out (show l.many = true by unfold Lo.many; rw [decide_eq_true (by omega : 60 < l.ws.length)]; simp)
    have HZ2 := hide hz2
    clear hz2
    go_wp2_with fail
    go_ret
    exact ⟨ret_int HZ2.out.symm, HB1.out⟩
  have m1 : l.many = false := by unfold Lo.many; rw [decide_eq_false (by omega : ¬ 40 < l.ss.length), decide_eq_false (by omega : ¬ 40 < l.us.length), decide_eq_false (by omega : ¬ 30 < l.ps.length), decide_eq_false (by omega : ¬ 60 < l.ws.length)]; rfl
  have HM := hide m1
  have n1 : l.ss.length ≤ 40 := by omega
  have n2 : l.us.length ≤ 40 := by omega
  have n3 : l.ps.length ≤ 30 := by omega
  have n4 : l.ws.length ≤ 60 := by omega
  clear m1 HL0 HB0 HCK
  go_wp2_with fail
  clear d0 d1 d2 d3 d4 d5 hlb1 t0 t1 t2 t3
  go_loopw [4, 5] (fun i _ wr => ∃ k : Nat, k ≤ l.ss.length ∧ i = .int .i64 k ∧ Hid (∀ j, j < k → (l.ss.getD j Sp.o).ok = true) ∧ Hid (Below w1.heap.size w1 wr)) (fun i _ _ => l.ss.length - (intOf i).toNat)
  case atStart => exact ⟨0, Nat.zero_le _, rfl, fun j hj => by omega, Below.refl _ _⟩
  case round =>
    obtain ⟨k, hk, rfl, hall, hB⟩ := hrel
    have HLr := hide (HL1.out.to hB.out)
    have HBW := hide (Below.to HB1.out hB.out (Nat.le_refl _))
    have c0 := cellOf HLr.out 0; have c1 := cellOf HLr.out 1; have c2 := cellOf HLr.out 2; have c3 := cellOf HLr.out 3; have c4 := cellOf HLr.out 4; have c5 := cellOf HLr.out 5
    have hlb := box_lt HLr.out
    by_cases hkl : k < l.ss.length
    · obtain ⟨b, off, x, HX, rfl, hbb, hq, e0, e1, e2⟩ := (H.out.below HBW.out).sp hkl
      have lb : b < wr.heap.size := Nat.lt_of_lt_of_le hbb HBW.out.size
      have ik : (k : Int) < (l.ss.length : Int) := by omega
      have iq : (l.ss.length : Int) ≤ (q2 : Int) := by omega
      go_upto_region 10 with (fail)
      generalize hwx : World.alloc _ _ = wx
      obtain ⟨hbx, hBx, hsx⟩ := alloc1 hwx
      have z0 := cellOf hbx 0; have z1 := cellOf hbx 1; have z2 := cellOf hbx 2
      have lz := box_lt hbx
      have HBx := hide (Below.to HBW.out hBx (Nat.le_refl _))
      have HBx1 := hide (Below.to hB.out hBx (Nat.le_refl _))
      clear hwx hbx hBx hsx c0 c1 c2 c3 c4 c5 hlb e0 e1 e2
      cases hA : btw x.x (-100000) 100000 with
      | false =>
        have hr : x.ok = false := by unfold Sp.ok; rw [hA]; simp
        have hz2 := err_spot HE.out HM.out (all_not (z := Sp.o) hkl (by rw [HX.out]; exact hr))
        have HZ2 := hide hz2
        clear hr hz2
        have HA := hide hA
        clear hA
        go_wp2_with (go_at_call 152; refine (fromB_any _ _ _ _ _ (by first | exact HA.out)).mono ?_; rintro e w5 ⟨rfl, rfl⟩)
        go_ret
        exact ⟨ret_int HZ2.out.symm, HBx.out⟩
      | true =>
        cases hB : btw x.y (-100000) 100000 with
        | false =>
          have hr : x.ok = false := by unfold Sp.ok; rw [hA, hB]; simp
          have hz2 := err_spot HE.out HM.out (all_not (z := Sp.o) hkl (by rw [HX.out]; exact hr))
          have HZ2 := hide hz2
          clear hr hz2
          have HA := hide hA
          have HB := hide hB
          clear hA hB
          go_wp2_with (go_at_call 152; refine (fromB_any _ _ _ _ _ (by first | exact HA.out | exact HB.out)).mono ?_; rintro e w5 ⟨rfl, rfl⟩)
          go_ret
          exact ⟨ret_int HZ2.out.symm, HBx.out⟩
        | true =>
          cases hC : btw x.z (-100000) 100000 with
          | false =>
            have hr : x.ok = false := by unfold Sp.ok; rw [hA, hB, hC]; simp
            have hz2 := err_spot HE.out HM.out (all_not (z := Sp.o) hkl (by rw [HX.out]; exact hr))
            have HZ2 := hide hz2
            clear hr hz2
            have HA := hide hA
            have HB := hide hB
            have HC := hide hC
            clear hA hB hC
            go_wp2_with (go_at_call 152; refine (fromB_any _ _ _ _ _ (by first | exact HA.out | exact HB.out | exact HC.out)).mono ?_; rintro e w5 ⟨rfl, rfl⟩)
            go_ret
            exact ⟨ret_int HZ2.out.symm, HBx.out⟩
          | true =>
            have hr : x.ok = true := by unfold Sp.ok; rw [hA, hB, hC]; rfl
            have HR := hide hr
            clear hr
            have HA := hide hA
            have HB := hide hB
            have HC := hide hC
            clear hA hB hC
            go_wp2_with (go_at_call 152; refine (fromB_any _ _ _ _ _ (by first | exact HA.out | exact HB.out | exact HC.out)).mono ?_; rintro e w5 ⟨rfl, rfl⟩)
            go_roundw
            case rel => exact ⟨k + 1, by omega, by go_num, fun j hj => by
                rcases Nat.lt_or_ge j k with h | h
                · exact hall.out j h
                · rw [show j = k from by omega, HX.out]; exact HR.out, HBx1.out⟩
            case measure => simp [intOf]; omega
    · have hke : k = l.ss.length := by omega
      subst hke
      have hal : l.ss.all Sp.ok = true := all_yes (z := Sp.o) hall.out
      have HAL := hide hal
      obtain ⟨wt, hwt⟩ : ∃ wt : World, wt = wr := ⟨_, rfl⟩
      subst hwt
      have htr := tree_any A0 A1 A2 A3 A4 A5 q0 q1 q2 q3 q4 q5 l wt HS.out (H.out.up HBW.out) (List.all_eq_true.1 hal) n1 n2
      obtain ⟨tz, htz⟩ : ∃ z, treE l = z := ⟨_, rfl⟩
      rw [htz] at htr
      have HTR := hide htr
      clear hall hal htr
      by_cases ht0 : tz = 0
      case neg =>
        have hz1 : (tz != 0) = true := by simpa using ht0
        have hz2 : l.err = tz := by rw [err_tree HE.out HM.out HAL.out (by rw [htz]; exact ht0), htz]
        have HZ2 := hide hz2
        clear hz2 ht0 htz
        go_wp2_with (go_at_call 153; refine HTR.out.mono ?_; rintro e w3 ⟨rfl, hB3⟩)
        go_ret
        exact ⟨ret_int HZ2.out.symm, Below.to HBW.out hB3 (Nat.le_refl _)⟩
      case pos =>
      subst ht0
      obtain ⟨g1, g2, g3⟩ := treE_zero htz
      have G1 := hide g1
      have G2 := hide g2
      have G3 := hide g3
      clear g1 g2 g3 htz
      go_wp2_with (go_at_call 153; refine HTR.out.mono ?_; rintro e w3 ⟨rfl, hB3⟩; have HL3 := hide (HLr.out.to hB3); have HB3 := hide (Below.to HBW.out hB3 (Nat.le_refl _)); have d0 := cellOf (HLr.out.to hB3) 0; have d1 := cellOf (HLr.out.to hB3) 1; have d2 := cellOf (HLr.out.to hB3) 2; have d3 := cellOf (HLr.out.to hB3) 3; have d4 := cellOf (HLr.out.to hB3) 4; have d5 := cellOf (HLr.out.to hB3) 5; have ld := box_lt (HLr.out.to hB3); clear hB3 c0 c1 c2 c3 c4 c5 hlb)
      clear d0 d1 d2 d3 d4 d5 ld
      go_loopw [6] (fun i wr => ∃ k : Nat, k ≤ l.ps.length ∧ i = .int .i64 k ∧ Hid (∀ j, j < k → plOk l j = true) ∧ Hid (Below w3.heap.size w3 wr)) (fun i _ => l.ps.length - (intOf i).toNat)
      case atStart => exact ⟨0, Nat.zero_le _, rfl, fun j hj => by omega, Below.refl _ _⟩
      case round =>
        obtain ⟨k, hk, rfl, hall, hB⟩ := hrel
        have HLr := hide (HL3.out.to hB.out)
        have HBW := hide (Below.to HB3.out hB.out (Nat.le_refl _))
        have c0 := cellOf HLr.out 0; have c1 := cellOf HLr.out 1; have c2 := cellOf HLr.out 2; have c3 := cellOf HLr.out 3; have c4 := cellOf HLr.out 4; have c5 := cellOf HLr.out 5
        have hlb := box_lt HLr.out
        by_cases hkl : k < l.ps.length
        · have hpl := rplug_any k A0 A1 A2 A3 A4 A5 q0 q1 q2 q3 q4 q5 l wr hkl HS.out (H.out.up HBW.out)
          cases hv : plOk l k with
          | false =>
            rw [hv] at hpl
            have HPL := hide hpl
            have hz2 := err_plug HE.out HM.out HAL.out G1.out G2.out G3.out (by
              rw [← Bool.not_eq_true, List.all_eq_true]
              intro q
              have := q k (by simpa using hkl)
              rw [hv] at this
              cases this)
            have HZ2 := hide hz2
            clear hz2 hv hpl
            go_wp2_with (go_at_call 154; refine HPL.out.mono ?_; rintro e w5 ⟨rfl, hB5⟩)
            go_ret
            exact ⟨ret_int HZ2.out.symm, Below.to HBW.out hB5 (Nat.le_refl _)⟩
          | true =>
            rw [hv] at hpl
            have HPL := hide hpl
            have HV := hide hv
            clear hv hpl
            go_wp2_with (go_at_call 154; refine HPL.out.mono ?_; rintro e w5 ⟨rfl, hB5⟩)
            go_roundw
            case rel => exact ⟨k + 1, by omega, by go_num, fun j hj => by
                rcases Nat.lt_or_ge j k with h | h
                · exact hall.out j h
                · rw [show j = k from by omega]; exact HV.out, Below.to hB.out hB5 (Nat.le_refl _)⟩
            case measure => simp [intOf]; omega
        · have hke : k = l.ps.length := by omega
          subst hke
          have HPA : Hid ((List.range l.ps.length).all (plOk l) = true) := List.all_eq_true.2 fun j hj => hall.out j (by simpa using hj)
          have hew := err_wire HE.out HM.out HAL.out G1.out G2.out G3.out HPA.out
          have HEW := hide hew
          obtain ⟨wt2, hwt2⟩ : ∃ wt2 : World, wt2 = wr := ⟨_, rfl⟩
          subst hwt2
          clear hall hew
          go_wp2_with fail
          clear c0 c1 c2 c3 c4 c5 hlb
          go_loopw [7] (fun i wr => ∃ k : Nat, k ≤ l.ws.length ∧ i = .int .i64 k ∧ Hid (∀ j, j < k → wiErr l j = 0) ∧ Hid (Below wt2.heap.size wt2 wr)) (fun i _ => l.ws.length - (intOf i).toNat)
          case atStart => exact ⟨0, Nat.zero_le _, rfl, fun j hj => by omega, Below.refl _ _⟩
          case round =>
            obtain ⟨k, hk, rfl, hall, hB⟩ := hrel
            have HLq := hide (HLr.out.to hB.out)
            have HBq := hide (Below.to HBW.out hB.out (Nat.le_refl _))
            have c0 := cellOf HLq.out 0; have c1 := cellOf HLq.out 1; have c2 := cellOf HLq.out 2; have c3 := cellOf HLq.out 3; have c4 := cellOf HLq.out 4; have c5 := cellOf HLq.out 5
            have hlb := box_lt HLq.out
            by_cases hkl : k < l.ws.length
            · have hpl := rwire_any k A0 A1 A2 A3 A4 A5 q0 q1 q2 q3 q4 q5 l wr hkl HS.out (H.out.up HBq.out)
              cases hv : wiOk l k with
              | false =>
                rw [hv] at hpl
                have HPL := hide hpl
                have hwe : wiErr l k = 63 := by unfold wiErr; rw [hv]; rfl
                have hz2 : l.err = 63 := by rw [HEW.out, wiresErr_first hall.out (by rw [hwe]; decide) hkl, hwe]
                have HZ2 := hide hz2
                clear hz2 hv hpl hwe
                go_wp2_with (go_at_call 155; refine HPL.out.mono ?_; rintro e w5 ⟨rfl, hB5⟩)
                go_ret
                exact ⟨ret_int HZ2.out.symm, Below.to HBq.out hB5 (Nat.le_refl _)⟩
              | true =>
                rw [hv] at hpl
                have HPL := hide hpl
                obtain ⟨b, off, x, Af, qf, HX, rfl, hbb, hq, HFO, e0, e1, e2, e3, e4, e5, e6⟩ := (H.out.up HBq.out).wi hkl
                have hfl : x.form.length ≤ maxLen := (HS.out.wn x (by rw [← HX.out]; exact getD_mem3f hkl)).2
                have hwe : wiErr l k = if validF l.m.opts.length x.form = false then 11 else 0 := by unfold wiErr; rw [hv, HX.out]; rfl
                have hEF : l.m.errF [x.form] = if validF l.m.opts.length x.form = false then 11 else 0 := by
                  rw [Mo.errF_ok HE.out, List.all_cons, List.all_nil, Bool.and_true]
                have HWE := hide (hwe.trans hEF.symm)
                obtain ⟨fe, hfe⟩ : ∃ z, l.m.errF [x.form] = z := ⟨_, rfl⟩
                have HFE := hide hfe
                have ik0 : (0 : Int) ≤ (k : Int) := by omega
                have ik : (k : Int) < (l.ws.length : Int) := by omega
                have iq : (l.ws.length : Int) ≤ (q5 : Int) := by omega
                have HSZ := hide HS.out.m
                clear hv hpl hwe hEF hfe
                go_upto_region 25 with (go_at_call 155; refine HPL.out.mono ?_; rintro e w5 ⟨rfl, hB5⟩; have HL5 := hide (HLq.out.to hB5); have HB5 := hide (Below.to hB.out hB5 (Nat.le_refl _)); have HBq5 := hide (Below.to HBq.out hB5 (Nat.le_refl _)); have d0 := cellOf (HLq.out.to hB5) 0; have d1 := cellOf (HLq.out.to hB5) 1; have d2 := cellOf (HLq.out.to hB5) 2; have d3 := cellOf (HLq.out.to hB5) 3; have d4 := cellOf (HLq.out.to hB5) 4; have d5 := cellOf (HLq.out.to hB5) 5; have ld := box_lt (HLq.out.to hB5); have f6 := (hB5.cell (p := ⟨b, off + k * 7 + 6, none⟩) hbb).trans e6; have lb5 : b < w5.heap.size := Nat.lt_of_lt_of_le hbb hB5.size; have HF5 := hide (Ints.up HFO.out hB5); clear hB5 c0 c1 c2 c3 c4 c5 hlb e0 e1 e2 e3 e4 e5 e6)
                refine wp_region_held_drew (S := (fun w' => Below w5.heap.size w5 w')) (by kernel_rfl) ?_ (fun hHeld => ?_)
                · try dsimp only
                  exact (by repeat (first | exact Below.refl _ _ | assumption | refine Below.drew ?_ | refine Below.drewN ?_ _ | refine Below.allocT ?_ (Nat.le_refl _) _ | refine Below.setCell ?_ (by simp <;> omega) _ | refine Below.to ?_ (by assumption) (Nat.le_refl _)))
                refine zT 0 rfl ?_
                try simp only [zX]
                refine zT 1 rfl ?_
                try simp only [zX]
                refine zT 2 rfl ?_
                try simp only [zX]
                refine zT 3 rfl ?_
                try simp only [zX]
                refine zT 4 rfl ?_
                try simp only [zX]
                refine zT 5 rfl ?_
                try simp only [zX]
                refine zT 6 rfl ?_
                try simp only [zX]
                refine zT 7 rfl ?_
                try simp only [zX]
                refine wpAnyH_ready (rs := [8]) (by kernel_rfl) (by simp) ?_
                refine AllReadyH.cons rfl (fun K hK => ?_) AllReadyH.nil
                go_simp
                ((go_at_call 156; refine (rCheckFormula_any l.m x.form _ _ _ _ HSZ.out hfl ((H.out.up HBq5.out).up (by assumption)).m (HF5.out.up (by assumption))).mono ?_; rw [HFE.out]; rintro e w8 ⟨rfl, hB8⟩))
                (try dsimp only)
                refine hK.out _ _ ?_ (fun hNext => ?_)
                · try dsimp only
                  exact (by repeat (first | exact Below.refl _ _ | assumption | refine Below.drew ?_ | refine Below.drewN ?_ _ | refine Below.allocT ?_ (Nat.le_refl _) _ | refine Below.setCell ?_ (by simp <;> omega) _ | refine Below.to ?_ (by assumption) (Nat.le_refl _)))
                clear hK K hHeld
                have hHeld := hNext
                clear hNext
                (try dsimp only at hHeld)
                try simp only [zX]
                refine zT 9 rfl ?_
                try simp only [zX]
                refine wpAnyH_done (by kernel_rfl) ?_ _
                by_cases hf0 : fe = 0
                · subst hf0
                  have hw0 : wiErr l k = 0 := HWE.out.trans HFE.out
                  have HW0 := hide hw0
                  clear hw0
                  go_wp2_with fail
                  go_roundw
                  case rel => exact ⟨k + 1, by omega, by go_num, fun j hj => by
                      rcases Nat.lt_or_ge j k with h | h
                      · exact hall.out j h
                      · rw [show j = k from by omega]; exact HW0.out, Below.to HB5.out hHeld (Nat.le_refl _)⟩
                  case measure => simp [intOf]; omega
                · have hz1 : (fe != 0) = true := by simpa using hf0
                  have hf11 : l.m.errF [x.form] = 11 := by
                    have h1 := HFE.out
                    rw [Mo.errF_ok HE.out] at h1 ⊢
                    by_cases h2 : [x.form].all (validF l.m.opts.length) = false
                    · rw [if_pos h2]
                    · rw [if_neg h2] at h1; exact absurd h1.symm hf0
                  have hz2 : l.err = 11 := by rw [HEW.out, wiresErr_first hall.out (by rw [HWE.out, hf11]; decide) hkl, HWE.out, hf11]
                  have HZ2 := hide hz2
                  clear hz2 hf0 hf11
                  go_wp2_with fail
                  go_ret
                  exact ⟨ret_int HZ2.out.symm, Below.to HBq5.out hHeld (Nat.le_refl _)⟩
            · have hke : k = l.ws.length := by omega
              subst hke
              have hz2 : l.err = 0 := by rw [HEW.out, wiresErr_at hall.out]
              have HZ2 := hide hz2
              clear hz2
              go_wp2_with fail
              go_ret
              exact ⟨ret_int HZ2.out.symm, HBq.out⟩
end Go.Proofs.YtehadoecnmfeoaaGreat
/- The elder Check of modules: walk. -/
namespace Go.Proofs.YtehadoecnmfeoaaGreat
open Go.RowKit
set_option linter.unusedVariables false
set_option linter.unusedSimpArgs false
end Go.Proofs.YtehadoecnmfeoaaGreat
/- The first defect is a defect, and no other comes before it: plain laws. -/
namespace Go.Proofs.YtehadoecnmfeoaaGreat
set_option linter.unusedVariables false
set_option linter.unusedSimpArgs false
/-- The kind of defect that a wire has: by whether it belongs to the variant, and how often it is made. -/
def kndB (is : Bool) (n : Nat) : Nat := if is = true ∧ n = 0 then 1 else if is = false ∧ 0 < n then 2 else if 1 < n then 3 else 0
def kndN (l : Lo) (ms : List Md) (x : List Bool) (w : Nat) : Nat := kndB (evF1 (vf x) (l.ws.getD w Wi.o).form) (manyN ms x w)
end Go.Proofs.YtehadoecnmfeoaaGreat
/- What is picked, and how often a wire is in it (the elder): walks. -/
namespace Go.Proofs.YtehadoecnmfeoaaGreat
open Go.RowKit
set_option linter.unusedVariables false
set_option linter.unusedSimpArgs false
def occK (ws : List Int) (w k : Nat) : Nat := ((ws.drop k).filter fun x => x == (w : Int)).length
theorem Nods.at8 {w : World} {B : Nat} {A : Option Addr} {m q : Nat} {S : List Nat} (h : Nods w B (.slice A m q) S) {k : Nat} (hk : k < S.length) : ∃ b off x, Hid (S.getD k 0 = x) ∧ A = some ⟨b, off, none⟩ ∧ b < B ∧ S.length ≤ q ∧ w.cell? ⟨b, off + k, none⟩ = some (.int .i64 (x : Nat)) := by
  obtain ⟨h1, h2, b, off, h3, h4, h5⟩ := sl_at h hk
  have h6 := h5 0 (by omega)
  rw [Nat.mul_one, Nat.add_zero] at h6
  exact ⟨b, off, _, rfl, h3, h4, by omega, h6⟩
end Go.Proofs.YtehadoecnmfeoaaGreat
/- The first variant that has a wire twice: walk. -/
namespace Go.Proofs.YtehadoecnmfeoaaGreat
open Go.RowKit
set_option linter.unusedVariables false
set_option linter.unusedSimpArgs false
theorem forms_three {w : World} {b B : Nat} {fv gv hv : Value} {f g h : List Int} {t : Nat} (hb : w.heap[b]? = some (.cells #[fv, gv, hv] t (0, 0))) (hB : b < B) (h1 : Ints w B fv f) (h2 : Ints w B gv g) (h3 : Ints w B hv h) : Forms w B (.slice (some ⟨b, 0, none⟩) 3 3) [f, g, h] :=
  ⟨fun i => if i = 0 then fv else if i = 1 then gv else hv, ⟨_, b, 0, 3, rfl, Nat.le_refl _, .inl ⟨rfl, hB⟩, fun i j hi hj => by
    simp at hi
    obtain rfl : j = 0 := by omega
    rcases (by omega : i = 0 ∨ i = 1 ∨ i = 2) with rfl | rfl | rfl
    · exact cellOf hb 0
    · exact cellOf hb 1
    · exact cellOf hb 2⟩, fun i hi => by
    simp at hi
    rcases (by omega : i = 0 ∨ i = 1 ∨ i = 2) with rfl | rfl | rfl
    · exact h1
    · exact h2
    · exact h3⟩
theorem sized_three {f g h : List Int} (h1 : f.length ≤ maxLen) (h2 : g.length ≤ maxLen) (h3 : h.length ≤ maxLen) : Sized [f, g, h] := ⟨by unfold maxLen; simp, fun x hx => by simp at hx; rcases hx with rfl | rfl | rfl <;> assumption⟩
theorem dub_head (m : Mo) (f g h : List Int) : (meeL m [f, g, h]).head? = (allM m).find? fun x => evF1 (vf x) f && (evF1 (vf x) g && evF1 (vf x) h) := by
  rw [mee_head]
  congr 1
  funext x
  simp [allF]
set_option maxRecDepth 100000 in
set_option maxHeartbeats 4000000 in
theorem double_any (k0 : Nat) (fs : List (List Int)) (Aw : Option Addr) (qw : Nat) (A0 A1 A2 A3 A4 A5 : Option Addr) (q0 q1 q2 q3 q4 q5 : Nat) (l : Lo) (w : World) (hs : SizedL l) (h : LoA w w.heap.size A0 A1 A2 A3 A4 A5 q0 q1 q2 q3 q4 q5 l) (ok : LoOk l) (hk : k0 < l.ws.length) (hf : Forms w w.heap.size (.slice Aw fs.length qw) fs) (h60 : fs.length ≤ 60) (hv : ∀ f ∈ fs, validF l.m.opts.length f = true) (hN : l.m.opts.length ≤ 12) :
    Calls Tryz.prog 58 #[.agg #[.slice A0 l.m.opts.length q0, .slice A1 l.m.rules.length q1, .slice A2 l.ss.length q2, .slice A3 l.us.length q3, .slice A4 l.ps.length q4, .slice A5 l.ws.length q5], .int .i64 k0, .slice Aw fs.length qw] w (LokP (frstV l.m (l.ws.getD k0 Wi.o).form fs 3) w) := by
  obtain ⟨bw, offw, x, Af, qf, HX, hA, hbw, hq5, HFO, e0, e1, e2, e3, e4, e5, e6⟩ := h.wi hk
  subst hA
  rw [HX.out]
  have hxv : validF l.m.opts.length x.form = true := by
    have h1 := (LoOk.wi ok hk).2
    rw [HX.out] at h1
    exact h1
  have hxl : x.form.length ≤ maxLen := (hs.wn x (by rw [← HX.out]; exact getD_mem7 hk)).2
  obtain ⟨res, hres⟩ : ∃ r, frstV l.m x.form fs 3 = r := ⟨_, rfl⟩
  rw [hres]
  have HRES := hide hres
  have H := hide h
  have HS := hide hs
  have HF := hide hf
  have HV := hide hv
  have HXV := hide hxv
  have OK := hide ok
  have E6 := hide e6
  have ii : (k0 : Int) < (l.ws.length : Int) := by omega
  have ik0 : (0 : Int) ≤ (k0 : Int) := by omega
  have iq : (l.ws.length : Int) ≤ (q5 : Int) := by omega
  clear h hs hf hv hxv ok hres e0 e1 e2 e3 e4 e5 e6 hq5
  go_enter Tryz.func58, Tryz.ntmps58
  go_upto_region 2 with (fail)
  generalize hw0 : World.alloc _ _ = w0
  obtain ⟨hb0, hb1, hB0, hs0⟩ := alloc2 hw0
  have HL0 : Hid (LoBox w0 w.heap.size A0 A1 A2 A3 A4 (some ⟨bw, offw, none⟩) q0 q1 q2 q3 q4 q5 l) := hb0
  have HE0 : Hid (EarAt w0 (w.heap.size + 1) l.m.opts.length (dubV l.m x.form fs 0 0)) := by
    rw [dubV_zero]
    exact ⟨_, hb1, rfl, fun x hx => by cases hx⟩
  have HB0 := hide hB0
  clear hw0 hb0 hb1 hB0 hs0
  go_wp2_with fail
  go_loopw [8, 9, 11, 12, 13, 14, 17] (fun _ _ _ _ _ _ i wr => ∃ k : Nat, i = .int .i64 k ∧ k ≤ fs.length ∧ Hid (Below w.heap.size w wr) ∧ Hid (LoBox wr w.heap.size A0 A1 A2 A3 A4 (some ⟨bw, offw, none⟩) q0 q1 q2 q3 q4 q5 l) ∧ Hid (EarAt wr (w.heap.size + 1) l.m.opts.length (dubV l.m x.form fs k 0))) (fun _ _ _ _ _ _ i _ => fs.length - (intOf i).toNat)
  case atStart => exact ⟨0, rfl, Nat.zero_le _, HB0.out, HL0.out, HE0.out⟩
  case round =>
    obtain ⟨k, rfl, hk2, HB, HL, HE⟩ := hrel
    by_cases hkl : k < fs.length
    · obtain ⟨bf, off, f, Ag, qg, HFK, hA2, hbf, hqf, HG, ef⟩ := HF.out.at7 hkl
      subst hA2
      have hfv : validF l.m.opts.length f = true := by rw [← HFK.out]; exact HV.out _ (getD_mem7 hkl)
      have hfl : f.length ≤ maxLen := by have := (validF_pos hfv).2; unfold maxLen; omega
      have z0 := (HB.out.cell (p := ⟨bf, off + k, none⟩) hbf).trans ef
      have lbf : bf < wr.heap.size := Nat.lt_of_lt_of_le hbf HB.out.size
      have i0 : (0 : Int) ≤ (k : Int) := by omega
      have i1 : (k : Int) < (fs.length : Int) := by omega
      have iqf : (fs.length : Int) ≤ (qw : Int) := by omega
      have ikq : (k : Int) ≤ (qw : Int) := by omega
      have HFV := hide hfv
      obtain ⟨wo, hwo⟩ : ∃ wo : World, wo = wr := ⟨_, rfl⟩
      subst hwo
      clear hqf ef hfv
      go_wp2_with fail
      clear z0 lbf
      go_loopw [11, 12, 13, 14, 26] (fun _ _ _ _ i wr => ∃ j : Nat, i = .int .i64 j ∧ j ≤ k ∧ Hid (Below w.heap.size w wr) ∧ Hid (LoBox wr w.heap.size A0 A1 A2 A3 A4 (some ⟨bw, offw, none⟩) q0 q1 q2 q3 q4 q5 l) ∧ Hid (EarAt wr (w.heap.size + 1) l.m.opts.length (dubV l.m x.form fs k j))) (fun _ _ _ _ i _ => k - (intOf i).toNat)
      case atStart => exact ⟨0, rfl, Nat.zero_le _, HB.out, HL.out, HE.out⟩
      case round =>
        clear HB HL HE
        obtain ⟨j, rfl, hj2, HB, HL, HE⟩ := hrel
        by_cases hjl : j < k
        · obtain ⟨bg, offg, g, Ah, qh, HGK, hA3, hbg, hqg, HG2, eg⟩ := HF.out.at7 (show j < fs.length by omega)
          injection hA3 with hA3
          injection hA3 with q1' q2'
          subst q1' q2'
          have hgv : validF l.m.opts.length g = true := by rw [← HGK.out]; exact HV.out _ (getD_mem7 (by omega))
          have hgl : g.length ≤ maxLen := by have := (validF_pos hgv).2; unfold maxLen; omega
          have z1 := (HB.out.cell (p := ⟨bf, off + j, none⟩) hbf).trans eg
          have lbf : bf < wr.heap.size := Nat.lt_of_lt_of_le hbf HB.out.size
          have j0 : (0 : Int) ≤ (j : Int) := by omega
          have j1 : (j : Int) < (k : Int) := by omega
          have hef : l.m.errF [x.form, f, g] = 0 := errF_all OK.out.m (fun y hy => by
            simp only [List.mem_cons, List.not_mem_nil, or_false] at hy
            rcases hy with h1 | h1 | h1
            · rw [h1]; exact HXV.out
            · rw [h1]; exact HFV.out
            · rw [h1]; exact hgv)
          obtain ⟨o, ho⟩ : ∃ o, (meeL l.m [x.form, f, g]).head? = o := ⟨_, rfl⟩
          have hoe : (!(meeL l.m [x.form, f, g]).isEmpty) = !o.isNone := by rw [empty_head, ho]
          have hstep : dubV l.m x.form fs k (j + 1) = soon (dubV l.m x.form fs k j) o := by rw [dubV_in hjl hkl, ← ho, dub_head, HFK.out, HGK.out]
          have hol : ∀ y, o = some y → y.length = l.m.opts.length := fun y hy => by
            rw [dub_head] at ho
            exact find_len (ho.trans hy)
          have HEF := hide hef
          have HO := hide ho
          have HOE := hide hoe
          have HST := hide hstep
          have HOL := hide hol
          clear hgv hqg eg hef ho hoe hstep hol
          go_upto_region 8 with (fail)
          clear z1 lbf
          have g6 := (HB.out.cell (p := ⟨bw, offw + k0 * 7 + 6, none⟩) hbw).trans E6.out
          have lbw : bw < wr.heap.size := Nat.lt_of_lt_of_le hbw HB.out.size
          have c0 := cellOf HL.out 0; have c1 := cellOf HL.out 1; have c2 := cellOf HL.out 2; have c3 := cellOf HL.out 3; have c4 := cellOf HL.out 4; have c5 := cellOf HL.out 5
          have lc := box_lt HL.out
          have HHr := hide (H.out.up HB.out)
          have HGr := hide (HG.out.up HB.out)
          have HG2r := hide (HG2.out.up HB.out)
          have HXr := hide (HFO.out.up HB.out)
          refine wp_region_held_drew (S := (fun w' => Below wr.heap.size wr w')) (by kernel_rfl) ?_ (fun hHeld => ?_)
          · try dsimp only
            exact (by repeat (first | exact Below.refl _ _ | assumption | refine Below.drew ?_ | refine Below.drewN ?_ _ | refine Below.allocT ?_ (Nat.le_refl _) _ | refine Below.setCell ?_ (by simp <;> omega) _ | refine Below.to ?_ (by assumption) (Nat.le_refl _)))
          refine zT 0 rfl ?_
          try simp only [zX]
          refine zT 1 rfl ?_
          try simp only [zX]
          refine zT 2 rfl ?_
          try simp only [zX]
          refine zT 3 rfl ?_
          try simp only [zX]
          refine zT 4 rfl ?_
          try simp only [zX]
          refine zT 5 rfl ?_
          try simp only [zX]
          refine zT 6 rfl ?_
          try simp only [zX]
          refine zT 7 rfl ?_
          try simp only [zX]
          refine zT 8 rfl ?_
          try simp only [zX]
          refine zT 9 rfl ?_
          try simp only [zX]
          refine wpAnyH_ready (rs := [10]) (by kernel_rfl) (by simp) ?_
          refine AllReadyH.cons rfl (fun K hK => ?_) AllReadyH.nil
          go_simp
          refine hK.out _ _ ?_ (fun hNext => ?_)
          · try dsimp only
            exact (by repeat (first | exact Below.refl _ _ | assumption | refine Below.drew ?_ | refine Below.drewN ?_ _ | refine Below.allocT ?_ (Nat.le_refl _) _ | refine Below.setCell ?_ (by simp <;> omega) _ | refine Below.to ?_ (by assumption) (Nat.le_refl _)))
          clear hK K hHeld
          have hHeld := hNext
          clear hNext
          (try dsimp only at hHeld)
          try simp only [zX]
          refine wpAnyH_ready (rs := [11]) (by kernel_rfl) (by simp) ?_
          refine AllReadyH.cons rfl (fun K hK => ?_) AllReadyH.nil
          go_simp
          ((go_at_call 54; refine (Meets_n l.m [x.form, f, g] _ _ _ _ HS.out.m (sized_three hxl hfl hgl) (HHr.out.up hHeld).m (forms_three (heap_new _ _ _ rfl) (by simp) (HXr.out.up hHeld) (HGr.out.up hHeld) (HG2r.out.up hHeld)) HEF.out hN (by simp)).mono ?_; rw [HO.out, HOE.out]; rintro e w2 ⟨v2, rfl, hop, hB2⟩))
          (try dsimp only)
          refine hK.out _ _ ?_ (fun hNext => ?_)
          · try dsimp only
            exact (by repeat (first | exact Below.refl _ _ | assumption | refine Below.drew ?_ | refine Below.drewN ?_ _ | refine Below.allocT ?_ (Nat.le_refl _) _ | refine Below.setCell ?_ (by simp <;> omega) _ | refine Below.to ?_ (by assumption) (Nat.le_refl _)))
          clear hK K hHeld
          have hHeld := hNext
          clear hNext
          (try dsimp only at hHeld)
          try simp only [zX]
          refine zT 12 rfl ?_
          try simp only [zX]
          refine zT 13 rfl ?_
          try simp only [zX]
          refine zT 14 rfl ?_
          try simp only [zX]
          refine zT 15 rfl ?_
          try simp only [zX]
          refine zT 16 rfl ?_
          try simp only [zX]
          refine zT 17 rfl ?_
          try simp only [zX]
          refine zT 18 rfl ?_
          try simp only [zX]
          refine wpAnyH_done (by kernel_rfl) ?_ _
          obtain ⟨Av, nv, qv, hv2, _⟩ := hop.form
          subst hv2
          have HOP := hide hop
          have HB2 := hide hHeld
          have HL2 := hide (HL.out.to hHeld)
          have HE2 := hide (HE.out.up hHeld)
          clear hHeld hop c0 c1 c2 c3 c4 c5 lc g6 lbw
          cases o with
          | none =>
            have hxe : dubV l.m x.form fs k (j + 1) = dubV l.m x.form fs k j := by
              rw [HST.out]
              cases dubV l.m x.form fs k j <;> rfl
            have HXE := hide hxe
            clear hxe
            go_wp2_with fail
            go_roundw
            case rel => exact ⟨j + 1, by go_num, by omega, Below.to HB.out HB2.out (Nat.le_refl _), HL2.out, by rw [HXE.out]; exact HE2.out⟩
            case measure => simp [intOf]; omega
          | some y =>
            go_wp2_with (go_at_call 127; refine (show_any (w.heap.size + 1) l.m.opts.length (dubV l.m x.form fs k j) (some y) _ w2 (by omega) HE2.out HOP.out HOL.out).mono ?_; rintro e w3 ⟨rfl, hE3, hg3⟩; have HE3 := hide hE3; have HG3 := hide hg3; clear hE3 hg3)
            go_roundw
            case rel => exact ⟨j + 1, by go_num, by omega, Below.grown (Below.to HB.out HB2.out (Nat.le_refl _)) HG3.out (Nat.le_trans HB.out.size HB2.out.size) (fun j hj => by injection hj with hj; omega), by
              obtain ⟨cv, hcv, _⟩ := HE2.out
              exact HL2.out.grown hcv (by decide) HG3.out, by rw [HST.out]; exact HE3.out⟩
            case measure => simp [intOf]; omega
        · have hje : j = k := by omega
          have j1 : ¬ (j : Int) < (k : Int) := by omega
          have HJE := hide hje
          clear hje
          go_wp2_with fail
          go_roundw
          case rel => exact ⟨k + 1, by go_num, by omega, HB.out, HL.out, by rw [← dubV_next]; have h1 := HE.out; rw [HJE.out] at h1; exact h1⟩
          case measure => simp [intOf]; omega
    · have hke : k = fs.length := by omega
      subst hke
      obtain ⟨cv, hcv, hop, _⟩ := HE.out
      rw [dubV_all, HRES.out] at hop
      have x0 := cellOf hcv 0
      have lx := box_lt hcv
      have HOP := hide hop
      clear hcv hop
      go_wp2_with fail
      go_ret
      exact ⟨_, rfl, HOP.out, HB.out⟩
end Go.Proofs.YtehadoecnmfeoaaGreat

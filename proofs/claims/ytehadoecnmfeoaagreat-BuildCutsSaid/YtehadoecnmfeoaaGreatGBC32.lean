/- Part 32 of this claim's texts: walks and plain laws. -/
import Derived.Test.YtehadoecnmfeoaaGreatRows
import Derived.Test.YtehadoecnmfeoaaGreatGBC29
import Derived.Test.YtehadoecnmfeoaaGreatGBC31
import Derived.Test.YtehadoecnmfeoaaGreatGBC11
import Derived.Deep.RegionHeld3
import Derived.Deep.DrawnRows
import Derived.Test.YtehadoecnmfeoaaGreatGBC3
/- The elder Check: walk. -/
namespace Go.Proofs.YtehadoecnmfeoaaGreat
open Go.RowKit
set_option linter.unusedVariables false
set_option linter.unusedSimpArgs false
theorem treE_zero {l : Lo} (h : treE l = 0) : ¬ (l.ss.length = 0 ∨ l.us.length + 1 ≠ l.ss.length) ∧ l.us.all (Ru.ok l.ss) = true ∧ l.full = true := by
  unfold treE at h
  by_cases h1 : l.ss.length = 0 ∨ l.us.length + 1 ≠ l.ss.length
  · rw [if_pos h1] at h; omega
  rw [if_neg h1] at h
  by_cases h2 : l.us.all (Ru.ok l.ss) = false
  · rw [if_pos h2] at h; omega
  rw [if_neg h2] at h
  by_cases h3 : l.full = false
  · rw [if_pos h3] at h; omega
  exact ⟨h1, by simpa using h2, by simpa using h3⟩
theorem err_tree {l : Lo} (h : l.m.err = 0) (h2 : l.many = false) (h3 : l.ss.all Sp.ok = true) (h4 : treE l ≠ 0) : l.err = treE l := by
  unfold treE at *
  unfold Lo.err
  rw [if_neg (by simp [h]), if_neg (by simp [h2]), if_neg (by simp [h3])]
  by_cases h5 : l.ss.length = 0 ∨ l.us.length + 1 ≠ l.ss.length
  · rw [if_pos h5, if_pos h5]
  rw [if_neg h5, if_neg h5] at *
  by_cases h6 : l.us.all (Ru.ok l.ss) = false
  · rw [if_pos h6, if_pos h6]
  rw [if_neg h6, if_neg h6] at *
  by_cases h7 : l.full = false
  · rw [if_pos h7, if_pos h7]
  rw [if_neg h7] at h4
  exact absurd rfl h4
set_option maxRecDepth 100000 in
set_option maxHeartbeats 8000000 in
theorem rCheck_any (A0 A1 A2 A3 A4 A5 : Option Addr) (q0 q1 q2 q3 q4 q5 : Nat) (l : Lo) (w : World) (hs : SizedL l) (h : LoA w w.heap.size A0 A1 A2 A3 A4 A5 q0 q1 q2 q3 q4 q5 l) :
    Calls Tryz.prog 67 #[.agg #[.slice A0 l.m.opts.length q0, .slice A1 l.m.rules.length q1, .slice A2 l.ss.length q2, .slice A3 l.us.length q3, .slice A4 l.ps.length q4, .slice A5 l.ws.length q5]] w fun e w' => e = .returned (.int .i64 l.err) ∧ Below w.heap.size w w' := by
  have H := hide h
  have HS := hide hs
  clear h hs
  go_enter Tryz.func67, Tryz.ntmps67
  go_upto_region 1 with (fail)
  generalize hw0 : World.alloc _ _ = w0
  obtain ⟨hb0, hB0, hs0⟩ := alloc1 hw0
  have HL0 : Hid (LoBox w0 w.heap.size A0 A1 A2 A3 A4 A5 q0 q1 q2 q3 q4 q5 l) := hb0
  have HB0 := hide hB0
  have c0 := cellOf hb0 0; have c1 := cellOf hb0 1; have c2 := cellOf hb0 2; have c3 := cellOf hb0 3; have c4 := cellOf hb0 4; have c5 := cellOf hb0 5
  have hlb := box_lt hb0
  have hck := rCheckModel_any l.m _ _ w0 HS.out.m (H.out.up hB0).m
  have HCK := hide hck
  clear hw0 hb0 hB0 hs0 hck
  by_cases he : l.m.err = 0
  case neg =>
    obtain ⟨z, hz⟩ : ∃ z, l.m.err = z := ⟨_, rfl⟩
    have hz1 : (z != 0) = true := by rw [← hz]; simpa using he
    have hz2 : l.err = z := by rw [err_m he, hz]
    have HZ := hide hz
    have HZ2 := hide hz2
    clear hz hz2 he
    go_wp2_with (go_at_call 151; refine HCK.out.mono ?_; rw [HZ.out]; rintro e w1 ⟨rfl, hB1⟩)
    go_ret
    exact ⟨ret_int HZ2.out.symm, Below.to HB0.out hB1 (Nat.le_refl _)⟩
  case pos =>
  have HE := hide he
  clear he
  go_upto_region 4 with (go_at_call 151; refine HCK.out.mono ?_; rw [HE.out]; rintro e w1 ⟨rfl, hB1⟩; have d0 := cellOf (HL0.out.to hB1) 0; have d1 := cellOf (HL0.out.to hB1) 1; have d2 := cellOf (HL0.out.to hB1) 2; have d3 := cellOf (HL0.out.to hB1) 3; have d4 := cellOf (HL0.out.to hB1) 4; have d5 := cellOf (HL0.out.to hB1) 5; have hlb1 := box_lt (HL0.out.to hB1); have HL1 := hide (HL0.out.to hB1); have HB1 := hide (Below.to HB0.out hB1 (Nat.le_refl _)); clear hB1 c0 c1 c2 c3 c4 c5 hlb)
  by_cases t0 : (40 : Int) < (l.ss.length : Int)
  · have hz2 := err_many HE.out (show l.many = true by unfold Lo.many; rw [decide_eq_true (by omega : 40 < l.ss.length)]; simp)
    have HZ2 := hide hz2
    clear hz2
    go_wp2_with fail
    go_ret
    exact ⟨ret_int HZ2.out.symm, HB1.out⟩
  by_cases t1 : (40 : Int) < (l.us.length : Int)
  · have hz2 := err_many HE.out (show l.many = true by unfold Lo.many; rw [decide_eq_true (by omega : 40 < l.us.length)]; simp)
    have HZ2 := hide hz2
    clear hz2
    go_wp2_with fail
    go_ret
    exact ⟨ret_int HZ2.out.symm, HB1.out⟩
  by_cases t2 : (30 : Int) < (l.ps.length : Int)
  · have hz2 := err_many HE.out (show l.many = true by unfold Lo.many; rw [decide_eq_true (by omega : 30 < l.ps.length)]; simp)
    have HZ2 := hide hz2
    clear hz2
    go_wp2_with fail
    go_ret
    exact ⟨ret_int HZ2.out.symm, HB1.out⟩
  by_cases t3 : (60 : Int) < (l.ws.length : Int)
  · have hz2 := err_many HE.out (show l.many = true by unfold Lo.many; rw [decide_eq_true (by omega : 60 < l.ws.length)]; simp)
    have HZ2 := hide hz2
    clear hz2
    go_wp2_with fail
    go_ret
    exact ⟨ret_int HZ2.out.symm, HB1.out⟩
  have m1 : l.many = false := by unfold Lo.many; rw [decide_eq_false (by omega : ¬ 40 < l.ss.length), decide_eq_false (by omega : ¬ 40 < l.us.length), decide_eq_false (by omega : ¬ 30 < l.ps.length), decide_eq_false (by omega : ¬ 60 < l.ws.length)]; rfl
  have HM := hide m1
  have n1 : l.ss.length ≤ 40 := by omega
  have n2 : l.us.length ≤ 40 := by omega
  have n3 : l.ps.length ≤ 30 := by omega
  have n4 : l.ws.length ≤ 60 := by omega
  clear m1 HL0 HB0 HCK
  go_wp2_with fail
  clear d0 d1 d2 d3 d4 d5 hlb1 t0 t1 t2 t3
  go_loopw [4, 5] (fun i _ wr => ∃ k : Nat, k ≤ l.ss.length ∧ i = .int .i64 k ∧ Hid (∀ j, j < k → (l.ss.getD j Sp.o).ok = true) ∧ Hid (Below w1.heap.size w1 wr)) (fun i _ _ => l.ss.length - (intOf i).toNat)
  case atStart => exact ⟨0, Nat.zero_le _, rfl, fun j hj => by omega, Below.refl _ _⟩
  case round =>
    obtain ⟨k, hk, rfl, hall, hB⟩ := hrel
    have HLr := hide (HL1.out.to hB.out)
    have HBW := hide (Below.to HB1.out hB.out (Nat.le_refl _))
    have c0 := cellOf HLr.out 0; have c1 := cellOf HLr.out 1; have c2 := cellOf HLr.out 2; have c3 := cellOf HLr.out 3; have c4 := cellOf HLr.out 4; have c5 := cellOf HLr.out 5
    have hlb := box_lt HLr.out
    by_cases hkl : k < l.ss.length
    · obtain ⟨b, off, x, HX, rfl, hbb, hq, e0, e1, e2⟩ := (H.out.below HBW.out).sp hkl
      have lb : b < wr.heap.size := Nat.lt_of_lt_of_le hbb HBW.out.size
      have ik : (k : Int) < (l.ss.length : Int) := by omega
      have iq : (l.ss.length : Int) ≤ (q2 : Int) := by omega
      go_upto_region 10 with (fail)
      generalize hwx : World.alloc _ _ = wx
      obtain ⟨hbx, hBx, hsx⟩ := alloc1 hwx
      have z0 := cellOf hbx 0; have z1 := cellOf hbx 1; have z2 := cellOf hbx 2
      have lz := box_lt hbx
      have HBx := hide (Below.to HBW.out hBx (Nat.le_refl _))
      have HBx1 := hide (Below.to hB.out hBx (Nat.le_refl _))
      clear hwx hbx hBx hsx c0 c1 c2 c3 c4 c5 hlb e0 e1 e2
      cases hA : btw x.x (-100000) 100000 with
      | false =>
        have hr : x.ok = false := by unfold Sp.ok; rw [hA]; simp
        have hz2 := err_spot HE.out HM.out (all_not (z := Sp.o) hkl (by rw [HX.out]; exact hr))
        have HZ2 := hide hz2
        clear hr hz2
        have HA := hide hA
        clear hA
        go_wp2_with (go_at_call 152; refine (fromB_any _ _ _ _ _ (by first | exact HA.out)).mono ?_; rintro e w5 ⟨rfl, rfl⟩)
        go_ret
        exact ⟨ret_int HZ2.out.symm, HBx.out⟩
      | true =>
        cases hB : btw x.y (-100000) 100000 with
        | false =>
          have hr : x.ok = false := by unfold Sp.ok; rw [hA, hB]; simp
          have hz2 := err_spot HE.out HM.out (all_not (z := Sp.o) hkl (by rw [HX.out]; exact hr))
          have HZ2 := hide hz2
          clear hr hz2
          have HA := hide hA
          have HB := hide hB
          clear hA hB
          go_wp2_with (go_at_call 152; refine (fromB_any _ _ _ _ _ (by first | exact HA.out | exact HB.out)).mono ?_; rintro e w5 ⟨rfl, rfl⟩)
          go_ret
          exact ⟨ret_int HZ2.out.symm, HBx.out⟩
        | true =>
          cases hC : btw x.z (-100000) 100000 with
          | false =>
            have hr : x.ok = false := by unfold Sp.ok; rw [hA, hB, hC]; simp
            have hz2 := err_spot HE.out HM.out (all_not (z := Sp.o) hkl (by rw [HX.out]; exact hr))
            have HZ2 := hide hz2
            clear hr hz2
            have HA := hide hA
            have HB := hide hB
            have HC := hide hC
            clear hA hB hC
            go_wp2_with (go_at_call 152; refine (fromB_any _ _ _ _ _ (by first | exact HA.out | exact HB.out | exact HC.out)).mono ?_; rintro e w5 ⟨rfl, rfl⟩)
            go_ret
            exact ⟨ret_int HZ2.out.symm, HBx.out⟩
          | true =>
            have hr : x.ok = true := by unfold Sp.ok; rw [hA, hB, hC]; rfl
            have HR := hide hr
            clear hr
            have HA := hide hA
            have HB := hide hB
            have HC := hide hC
            clear hA hB hC
            go_wp2_with (go_at_call 152; refine (fromB_any _ _ _ _ _ (by first | exact HA.out | exact HB.out | exact HC.out)).mono ?_; rintro e w5 ⟨rfl, rfl⟩)
            go_roundw
            case rel => exact ⟨k + 1, by omega, by go_num, fun j hj => by
                rcases Nat.lt_or_ge j k with h | h
                · exact hall.out j h
                · rw [show j = k from by omega, HX.out]; exact HR.out, HBx1.out⟩
            case measure => simp [intOf]; omega
    · have hke : k = l.ss.length := by omega
      subst hke
      have hal : l.ss.all Sp.ok = true := all_yes (z := Sp.o) hall.out
      have HAL := hide hal
      obtain ⟨wt, hwt⟩ : ∃ wt : World, wt = wr := ⟨_, rfl⟩
      subst hwt
      have htr := tree_any A0 A1 A2 A3 A4 A5 q0 q1 q2 q3 q4 q5 l wt HS.out (H.out.up HBW.out) (List.all_eq_true.1 hal) n1 n2
      obtain ⟨tz, htz⟩ : ∃ z, treE l = z := ⟨_, rfl⟩
      rw [htz] at htr
      have HTR := hide htr
      clear hall hal htr
      by_cases ht0 : tz = 0
      case neg =>
        have hz1 : (tz != 0) = true := by simpa using ht0
        have hz2 : l.err = tz := by rw [err_tree HE.out HM.out HAL.out (by rw [htz]; exact ht0), htz]
        have HZ2 := hide hz2
        clear hz2 ht0 htz
        go_wp2_with (go_at_call 153; refine HTR.out.mono ?_; rintro e w3 ⟨rfl, hB3⟩)
        go_ret
        exact ⟨ret_int HZ2.out.symm, Below.to HBW.out hB3 (Nat.le_refl _)⟩
      case pos =>
      subst ht0
      obtain ⟨g1, g2, g3⟩ := treE_zero htz
      have G1 := hide g1
      have G2 := hide g2
      have G3 := hide g3
      clear g1 g2 g3 htz
      go_wp2_with (go_at_call 153; refine HTR.out.mono ?_; rintro e w3 ⟨rfl, hB3⟩; have HL3 := hide (HLr.out.to hB3); have HB3 := hide (Below.to HBW.out hB3 (Nat.le_refl _)); have d0 := cellOf (HLr.out.to hB3) 0; have d1 := cellOf (HLr.out.to hB3) 1; have d2 := cellOf (HLr.out.to hB3) 2; have d3 := cellOf (HLr.out.to hB3) 3; have d4 := cellOf (HLr.out.to hB3) 4; have d5 := cellOf (HLr.out.to hB3) 5; have ld := box_lt (HLr.out.to hB3); clear hB3 c0 c1 c2 c3 c4 c5 hlb)
      clear d0 d1 d2 d3 d4 d5 ld
      go_loopw [6] (fun i wr => ∃ k : Nat, k ≤ l.ps.length ∧ i = .int .i64 k ∧ Hid (∀ j, j < k → plOk l j = true) ∧ Hid (Below w3.heap.size w3 wr)) (fun i _ => l.ps.length - (intOf i).toNat)
      case atStart => exact ⟨0, Nat.zero_le _, rfl, fun j hj => by omega, Below.refl _ _⟩
      case round =>
        obtain ⟨k, hk, rfl, hall, hB⟩ := hrel
        have HLr := hide (HL3.out.to hB.out)
        have HBW := hide (Below.to HB3.out hB.out (Nat.le_refl _))
        have c0 := cellOf HLr.out 0; have c1 := cellOf HLr.out 1; have c2 := cellOf HLr.out 2; have c3 := cellOf HLr.out 3; have c4 := cellOf HLr.out 4; have c5 := cellOf HLr.out 5
        have hlb := box_lt HLr.out
        by_cases hkl : k < l.ps.length
        · have hpl := rplug_any k A0 A1 A2 A3 A4 A5 q0 q1 q2 q3 q4 q5 l wr hkl HS.out (H.out.up HBW.out)
          cases hv : plOk l k with
          | false =>
            rw [hv] at hpl
            have HPL := hide hpl
            have hz2 := err_plug HE.out HM.out HAL.out G1.out G2.out G3.out (by
              rw [← Bool.not_eq_true, List.all_eq_true]
              intro q
              have := q k (by simpa using hkl)
              rw [hv] at this
              cases this)
            have HZ2 := hide hz2
            clear hz2 hv hpl
            go_wp2_with (go_at_call 154; refine HPL.out.mono ?_; rintro e w5 ⟨rfl, hB5⟩)
            go_ret
            exact ⟨ret_int HZ2.out.symm, Below.to HBW.out hB5 (Nat.le_refl _)⟩
          | true =>
            rw [hv] at hpl
            have HPL := hide hpl
            have HV := hide hv
            clear hv hpl
            go_wp2_with (go_at_call 154; refine HPL.out.mono ?_; rintro e w5 ⟨rfl, hB5⟩)
            go_roundw
            case rel => exact ⟨k + 1, by omega, by go_num, fun j hj => by
                rcases Nat.lt_or_ge j k with h | h
                · exact hall.out j h
                · rw [show j = k from by omega]; exact HV.out, Below.to hB.out hB5 (Nat.le_refl _)⟩
            case measure => simp [intOf]; omega
        · have hke : k = l.ps.length := by omega
          subst hke
          have HPA : Hid ((List.range l.ps.length).all (plOk l) = true) := List.all_eq_true.2 fun j hj => hall.out j (by simpa using hj)
          have hew := err_wire HE.out HM.out HAL.out G1.out G2.out G3.out HPA.out
          have HEW := hide hew
          obtain ⟨wt2, hwt2⟩ : ∃ wt2 : World, wt2 = wr := ⟨_, rfl⟩
          subst hwt2
          clear hall hew
          go_wp2_with fail
          clear c0 c1 c2 c3 c4 c5 hlb
          go_loopw [7] (fun i wr => ∃ k : Nat, k ≤ l.ws.length ∧ i = .int .i64 k ∧ Hid (∀ j, j < k → wiErr l j = 0) ∧ Hid (Below wt2.heap.size wt2 wr)) (fun i _ => l.ws.length - (intOf i).toNat)
          case atStart => exact ⟨0, Nat.zero_le _, rfl, fun j hj => by omega, Below.refl _ _⟩
          case round =>
            obtain ⟨k, hk, rfl, hall, hB⟩ := hrel
            have HLq := hide (HLr.out.to hB.out)
            have HBq := hide (Below.to HBW.out hB.out (Nat.le_refl _))
            have c0 := cellOf HLq.out 0; have c1 := cellOf HLq.out 1; have c2 := cellOf HLq.out 2; have c3 := cellOf HLq.out 3; have c4 := cellOf HLq.out 4; have c5 := cellOf HLq.out 5
            have hlb := box_lt HLq.out
            by_cases hkl : k < l.ws.length
            · have hpl := rwire_any k A0 A1 A2 A3 A4 A5 q0 q1 q2 q3 q4 q5 l wr hkl HS.out (H.out.up HBq.out)
              cases hv : wiOk l k with
              | false =>
                rw [hv] at hpl
                have HPL := hide hpl
                have hwe : wiErr l k = 63 := by unfold wiErr; rw [hv]; rfl
                have hz2 : l.err = 63 := by rw [HEW.out, wiresErr_first hall.out (by rw [hwe]; decide) hkl, hwe]
                have HZ2 := hide hz2
                clear hz2 hv hpl hwe
                go_wp2_with (go_at_call 155; refine HPL.out.mono ?_; rintro e w5 ⟨rfl, hB5⟩)
                go_ret
                exact ⟨ret_int HZ2.out.symm, Below.to HBq.out hB5 (Nat.le_refl _)⟩
              | true =>
                rw [hv] at hpl
                have HPL := hide hpl
                obtain ⟨b, off, x, Af, qf, HX, rfl, hbb, hq, HFO, e0, e1, e2, e3, e4, e5, e6⟩ := (H.out.up HBq.out).wi hkl
                have hfl : x.form.length ≤ maxLen := (HS.out.wn x (by rw [← HX.out]; exact getD_mem3f hkl)).2
                have hwe : wiErr l k = if validF l.m.opts.length x.form = false then 11 else 0 := by unfold wiErr; rw [hv, HX.out]; rfl
                have hEF : l.m.errF [x.form] = if validF l.m.opts.length x.form = false then 11 else 0 := by
                  rw [Mo.errF_ok HE.out, List.all_cons, List.all_nil, Bool.and_true]
                have HWE := hide (hwe.trans hEF.symm)
                obtain ⟨fe, hfe⟩ : ∃ z, l.m.errF [x.form] = z := ⟨_, rfl⟩
                have HFE := hide hfe
                have ik0 : (0 : Int) ≤ (k : Int) := by omega
                have ik : (k : Int) < (l.ws.length : Int) := by omega
                have iq : (l.ws.length : Int) ≤ (q5 : Int) := by omega
                have HSZ := hide HS.out.m
                clear hv hpl hwe hEF hfe
                go_upto_region 25 with (go_at_call 155; refine HPL.out.mono ?_; rintro e w5 ⟨rfl, hB5⟩; have HL5 := hide (HLq.out.to hB5); have HB5 := hide (Below.to hB.out hB5 (Nat.le_refl _)); have HBq5 := hide (Below.to HBq.out hB5 (Nat.le_refl _)); have d0 := cellOf (HLq.out.to hB5) 0; have d1 := cellOf (HLq.out.to hB5) 1; have d2 := cellOf (HLq.out.to hB5) 2; have d3 := cellOf (HLq.out.to hB5) 3; have d4 := cellOf (HLq.out.to hB5) 4; have d5 := cellOf (HLq.out.to hB5) 5; have ld := box_lt (HLq.out.to hB5); have f6 := (hB5.cell (p := ⟨b, off + k * 7 + 6, none⟩) hbb).trans e6; have lb5 : b < w5.heap.size := Nat.lt_of_lt_of_le hbb hB5.size; have HF5 := hide (Ints.up HFO.out hB5); clear hB5 c0 c1 c2 c3 c4 c5 hlb e0 e1 e2 e3 e4 e5 e6)
                refine wp_region_held_drew (S := (fun w' => Below w5.heap.size w5 w')) (by kernel_rfl) ?_ (fun hHeld => ?_)
                · try dsimp only
                  exact (by repeat (first | exact Below.refl _ _ | assumption | refine Below.drew ?_ | refine Below.drewN ?_ _ | refine Below.allocT ?_ (Nat.le_refl _) _ | refine Below.setCell ?_ (by simp <;> omega) _ | refine Below.to ?_ (by assumption) (Nat.le_refl _)))
                refine zT 0 rfl ?_
                refine zT 1 rfl ?_
                refine zT 2 rfl ?_
                refine zT 3 rfl ?_
                refine zT 4 rfl ?_
                refine zT 5 rfl ?_
                refine zT 6 rfl ?_
                refine zT 7 rfl ?_
                refine wpAnyH_ready (rs := [8]) (by kernel_rfl) (by simp) ?_
                refine AllReadyH.cons rfl (fun K hK => ?_) AllReadyH.nil
                go_simp
                ((go_at_call 156; refine (rCheckFormula_any l.m x.form _ _ _ _ HSZ.out hfl ((H.out.up HBq5.out).up (by assumption)).m (HF5.out.up (by assumption))).mono ?_; rw [HFE.out]; rintro e w8 ⟨rfl, hB8⟩))
                (try dsimp only)
                refine hK.out _ _ ?_ (fun hNext => ?_)
                · try dsimp only
                  exact (by repeat (first | exact Below.refl _ _ | assumption | refine Below.drew ?_ | refine Below.drewN ?_ _ | refine Below.allocT ?_ (Nat.le_refl _) _ | refine Below.setCell ?_ (by simp <;> omega) _ | refine Below.to ?_ (by assumption) (Nat.le_refl _)))
                clear hK K hHeld
                have hHeld := hNext
                clear hNext
                (try dsimp only at hHeld)
                try simp only [zX]
                refine zT 9 rfl ?_
                refine wpAnyH_done (by kernel_rfl) ?_ _
                by_cases hf0 : fe = 0
                · subst hf0
                  have hw0 : wiErr l k = 0 := HWE.out.trans HFE.out
                  have HW0 := hide hw0
                  clear hw0
                  go_wp2_with fail
                  go_roundw
                  case rel => exact ⟨k + 1, by omega, by go_num, fun j hj => by
                      rcases Nat.lt_or_ge j k with h | h
                      · exact hall.out j h
                      · rw [show j = k from by omega]; exact HW0.out, Below.to HB5.out hHeld (Nat.le_refl _)⟩
                  case measure => simp [intOf]; omega
                · have hz1 : (fe != 0) = true := by simpa using hf0
                  have hf11 : l.m.errF [x.form] = 11 := by
                    have h1 := HFE.out
                    rw [Mo.errF_ok HE.out] at h1 ⊢
                    by_cases h2 : [x.form].all (validF l.m.opts.length) = false
                    · rw [if_pos h2]
                    · rw [if_neg h2] at h1; exact absurd h1.symm hf0
                  have hz2 : l.err = 11 := by rw [HEW.out, wiresErr_first hall.out (by rw [HWE.out, hf11]; decide) hkl, HWE.out, hf11]
                  have HZ2 := hide hz2
                  clear hz2 hf0 hf11
                  go_wp2_with fail
                  go_ret
                  exact ⟨ret_int HZ2.out.symm, Below.to HBq5.out hHeld (Nat.le_refl _)⟩
            · have hke : k = l.ws.length := by omega
              subst hke
              have hz2 : l.err = 0 := by rw [HEW.out, wiresErr_at hall.out]
              have HZ2 := hide hz2
              clear hz2
              go_wp2_with fail
              go_ret
              exact ⟨ret_int HZ2.out.symm, HBq.out⟩
end Go.Proofs.YtehadoecnmfeoaaGreat

/- Part 30 of this claim's texts: walks and plain laws. -/
import Derived.Test.YtehadoecnmfeoaaGreatRows
import Derived.Test.YtehadoecnmfeoaaGreatGBS28
import Derived.Test.YtehadoecnmfeoaaGreatGBS29
import Derived.Test.YtehadoecnmfeoaaGreatGBS11
import Derived.Deep.RegionHeld3
import Derived.Deep.DrawnRows
import Derived.Test.YtehadoecnmfeoaaGreatGBS3
import Derived.Test.YtehadoecnmfeoaaGreatGBS27
import Derived.Test.YtehadoecnmfeoaaGreatGBS2
import Derived.Laws.Cover3
import Derived.Test.YtehadoecnmfeoaaGreatGBS14
import Derived.Test.YtehadoecnmfeoaaGreatGBS13
import Derived.Test.YtehadoecnmfeoaaGreatGBS12
import Derived.BigQuiet
import Derived.Deep.DeepMust
set_option linter.unusedVariables false
set_option linter.unusedSimpArgs false
set_option linter.unusedSectionVars false
namespace Go.Proofs.YtehadoecnmfeoaaGreat
open Go.RowKit
theorem treE_zero {l : Lo} (h : treE l = 0) : ¬ (l.ss.length = 0 ∨ l.us.length + 1 ≠ l.ss.length) ∧ l.us.all (Ru.ok l.ss) = true ∧ l.full = true := by
 unfold treE at h
 by_cases h1 : l.ss.length = 0 ∨ l.us.length + 1 ≠ l.ss.length
 ·
  rw [if_pos h1] at h; omega
 rw [if_neg h1] at h
 by_cases h2 : l.us.all (Ru.ok l.ss) = false
 ·
  rw [if_pos h2] at h; omega
 rw [if_neg h2] at h
 by_cases h3 : l.full = false
 ·
  rw [if_pos h3] at h; omega
 exact ⟨h1, by simpa using h2, by simpa using h3⟩
theorem err_tree {l : Lo} (h : l.m.err = 0) (h2 : l.many = false) (h3 : l.ss.all Sp.ok = true) (h4 : treE l ≠ 0) : l.err = treE l := by
 unfold treE at *
 unfold Lo.err
 rw [if_neg (by simp [h]), if_neg (by simp [h2]), if_neg (by simp [h3])]
 by_cases h5 : l.ss.length = 0 ∨ l.us.length + 1 ≠ l.ss.length
 ·
  rw [if_pos h5, if_pos h5]
 rw [if_neg h5, if_neg h5] at *
 by_cases h6 : l.us.all (Ru.ok l.ss) = false
 ·
  rw [if_pos h6, if_pos h6]
 rw [if_neg h6, if_neg h6] at *
 by_cases h7 : l.full = false
 ·
  rw [if_pos h7, if_pos h7]
 rw [if_neg h7] at h4
 exact absurd rfl h4
set_option maxRecDepth 100000 in
set_option maxHeartbeats 8000000 in
theorem rCheck_any (A0 A1 A2 A3 A4 A5 : Option Addr) (q0 q1 q2 q3 q4 q5 : Nat) (l : Lo) (w : World) (hs : SizedL l) (h : LoA w w.heap.size A0 A1 A2 A3 A4 A5 q0 q1 q2 q3 q4 q5 l) :
  Calls Tryz.prog 67 #[.agg #[.slice A0 l.m.opts.length q0, .slice A1 l.m.rules.length q1, .slice A2 l.ss.length q2, .slice A3 l.us.length q3, .slice A4 l.ps.length q4, .slice A5 l.ws.length q5]] w fun e w' => e = .returned (.int .i64 l.err) ∧ Below w.heap.size w w' := by
 have H := hide h
 have HS := hide hs
 clear h hs
 go_enter Tryz.func67, Tryz.ntmps67
 go_upto_region 1 with (fail)
 generalize hw0 : World.alloc _ _ = w0
 obtain ⟨hb0, hB0, hs0⟩ := alloc1 hw0
 have HL0 : Hid (LoBox w0 w.heap.size A0 A1 A2 A3 A4 A5 q0 q1 q2 q3 q4 q5 l) := hb0
 have HB0 := hide hB0
 obtain ⟨c0, c1, c2, c3, c4, c5⟩ := zL hb0
 have hlb := box_lt hb0
 have hck := rCheckModel_any l.m _ _ w0 HS.out.m (H.out.up hB0).m
 have HCK := hide hck
 clear hw0 hb0 hB0 hs0 hck
 by_cases he : l.m.err = 0
 case neg =>
  obtain ⟨z, hz⟩ : ∃ z, l.m.err = z := ⟨_, rfl⟩
  have hz1 : (z != 0) = true := by rw [← hz]; simpa using he
  have hz2 : l.err = z := by rw [err_m he, hz]
  have HZ := hide hz
  have HZ2 := hide hz2
  clear hz hz2 he
  go_wp2_with (go_at_call 151; refine HCK.out.mono ?_; rw [HZ.out]; rintro e w1 ⟨rfl, hB1⟩)
  go_ret
  exact ⟨ret_int HZ2.out.symm, Below.to HB0.out hB1 (Nat.le_refl _)⟩
 case pos =>
 have HE := hide he
 clear he
 go_upto_region 4 with (go_at_call 151; refine HCK.out.mono ?_; rw [HE.out]; rintro e w1 ⟨rfl, hB1⟩; obtain ⟨d0, d1, d2, d3, d4, d5⟩ := zL (HL0.out.to hB1); have hlb1 := box_lt (HL0.out.to hB1); have HL1 := hide (HL0.out.to hB1); have HB1 := hide (Below.to HB0.out hB1 (Nat.le_refl _)); clear hB1 c0 c1 c2 c3 c4 c5 hlb)
 by_cases t0 : (40 : Int) < (l.ss.length : Int)
 ·
  have hz2 := err_many HE.out (show l.many = true by unfold Lo.many; rw [decide_eq_true (by omega : 40 < l.ss.length)]; simp)
  have HZ2 := hide hz2
  clear hz2
  go_wp2_with fail
  go_ret
  exact ⟨ret_int HZ2.out.symm, HB1.out⟩
 by_cases t1 : (40 : Int) < (l.us.length : Int)
 ·
  have hz2 := err_many HE.out (show l.many = true by unfold Lo.many; rw [decide_eq_true (by omega : 40 < l.us.length)]; simp)
  have HZ2 := hide hz2
  clear hz2
  go_wp2_with fail
  go_ret
  exact ⟨ret_int HZ2.out.symm, HB1.out⟩
 by_cases t2 : (30 : Int) < (l.ps.length : Int)
 ·
  have hz2 := err_many HE.out (show l.many = true by unfold Lo.many; rw [decide_eq_true (by omega : 30 < l.ps.length)]; simp)
  have HZ2 := hide hz2
  clear hz2
  go_wp2_with fail
  go_ret
  exact ⟨ret_int HZ2.out.symm, HB1.out⟩
 by_cases t3 : (60 : Int) < (l.ws.length : Int)
 ·
  have hz2 := err_many HE.out (show l.many = true by unfold Lo.many; rw [decide_eq_true (by omega : 60 < l.ws.length)]; simp)
  have HZ2 := hide hz2
  clear hz2
  go_wp2_with fail
  go_ret
  exact ⟨ret_int HZ2.out.symm, HB1.out⟩
 have m1 : l.many = false := by unfold Lo.many; rw [decide_eq_false (by omega : ¬ 40 < l.ss.length), decide_eq_false (by omega : ¬ 40 < l.us.length), decide_eq_false (by omega : ¬ 30 < l.ps.length), decide_eq_false (by omega : ¬ 60 < l.ws.length)]; rfl
 have HM := hide m1
 have n1 : l.ss.length ≤ 40 := by omega
 have n2 : l.us.length ≤ 40 := by omega
 have n3 : l.ps.length ≤ 30 := by omega
 have n4 : l.ws.length ≤ 60 := by omega
 clear m1 HL0 HB0 HCK
 go_wp2_with fail
 clear d0 d1 d2 d3 d4 d5 hlb1 t0 t1 t2 t3
 go_loopw [4, 5] (fun i _ wr => ∃ k : Nat, k ≤ l.ss.length ∧ i = .int .i64 k ∧ Hid (∀ j, j < k → (l.ss.getD j Sp.o).ok = true) ∧ Hid (Below w1.heap.size w1 wr)) (fun i _ _ => l.ss.length - (intOf i).toNat)
 case atStart => exact ⟨0, Nat.zero_le _, rfl, fun j hj => by omega, Below.refl _ _⟩
 case round =>
  obtain ⟨k, hk, rfl, hall, hB⟩ := hrel
  have HLr := hide (HL1.out.to hB.out)
  have HBW := hide (Below.to HB1.out hB.out (Nat.le_refl _))
  obtain ⟨c0, c1, c2, c3, c4, c5⟩ := zL HLr.out
  have hlb := box_lt HLr.out
  by_cases hkl : k < l.ss.length
  ·
   obtain ⟨b, off, x, HX, rfl, hbb, hq, e0, e1, e2⟩ := (H.out.below HBW.out).sp hkl
   have lb : b < wr.heap.size := Nat.lt_of_lt_of_le hbb HBW.out.size
   have ik : (k : Int) < (l.ss.length : Int) := by omega
   have iq : (l.ss.length : Int) ≤ (q2 : Int) := by omega
   go_upto_region 10 with (fail)
   generalize hwx : World.alloc _ _ = wx
   obtain ⟨hbx, hBx, hsx⟩ := alloc1 hwx
   have z0 := cellOf hbx 0; have z1 := cellOf hbx 1; have z2 := cellOf hbx 2
   have lz := box_lt hbx
   have HBx := hide (Below.to HBW.out hBx (Nat.le_refl _))
   have HBx1 := hide (Below.to hB.out hBx (Nat.le_refl _))
   clear hwx hbx hBx hsx c0 c1 c2 c3 c4 c5 hlb e0 e1 e2
   cases hA : btw x.x (-100000) 100000 with
   | false =>
    have hr : x.ok = false := by unfold Sp.ok; rw [hA]; simp
    have hz2 := err_spot HE.out HM.out (all_not (z := Sp.o) hkl (by rw [HX.out]; exact hr))
    have HZ2 := hide hz2
    clear hr hz2
    have HA := hide hA
    clear hA
    go_wp2_with (go_at_call 152; refine (fromB_any _ _ _ _ _ (by first | exact HA.out)).mono ?_; rintro e w5 ⟨rfl, rfl⟩)
    go_ret
    exact ⟨ret_int HZ2.out.symm, HBx.out⟩
   | true =>
    cases hB : btw x.y (-100000) 100000 with
    | false =>
     have hr : x.ok = false := by unfold Sp.ok; rw [hA, hB]; simp
     have hz2 := err_spot HE.out HM.out (all_not (z := Sp.o) hkl (by rw [HX.out]; exact hr))
     have HZ2 := hide hz2
     clear hr hz2
     have HA := hide hA
     have HB := hide hB
     clear hA hB
     go_wp2_with (go_at_call 152; refine (fromB_any _ _ _ _ _ (by first | exact HA.out | exact HB.out)).mono ?_; rintro e w5 ⟨rfl, rfl⟩)
     go_ret
     exact ⟨ret_int HZ2.out.symm, HBx.out⟩
    | true =>
     cases hC : btw x.z (-100000) 100000 with
     | false =>
      have hr : x.ok = false := by unfold Sp.ok; rw [hA, hB, hC]; simp
      have hz2 := err_spot HE.out HM.out (all_not (z := Sp.o) hkl (by rw [HX.out]; exact hr))
      have HZ2 := hide hz2
      clear hr hz2
      have HA := hide hA
      have HB := hide hB
      have HC := hide hC
      clear hA hB hC
      go_wp2_with (go_at_call 152; refine (fromB_any _ _ _ _ _ (by first | exact HA.out | exact HB.out | exact HC.out)).mono ?_; rintro e w5 ⟨rfl, rfl⟩)
      go_ret
      exact ⟨ret_int HZ2.out.symm, HBx.out⟩
     | true =>
      have hr : x.ok = true := by unfold Sp.ok; rw [hA, hB, hC]; rfl
      have HR := hide hr
      clear hr
      have HA := hide hA
      have HB := hide hB
      have HC := hide hC
      clear hA hB hC
      go_wp2_with (go_at_call 152; refine (fromB_any _ _ _ _ _ (by first | exact HA.out | exact HB.out | exact HC.out)).mono ?_; rintro e w5 ⟨rfl, rfl⟩)
      go_roundw
      case rel => exact ⟨k + 1, by omega, by go_num, fun j hj => by
        rcases Nat.lt_or_ge j k with h | h
        ·
         exact hall.out j h
        ·
         rw [show j = k from by omega, HX.out]; exact HR.out, HBx1.out⟩
      case measure => simp [intOf]; omega
  ·
   have hke : k = l.ss.length := by omega
   subst hke
   have hal : l.ss.all Sp.ok = true := all_yes (z := Sp.o) hall.out
   have HAL := hide hal
   obtain ⟨wt, hwt⟩ : ∃ wt : World, wt = wr := ⟨_, rfl⟩
   subst hwt
   have htr := tree_any A0 A1 A2 A3 A4 A5 q0 q1 q2 q3 q4 q5 l wt HS.out (H.out.up HBW.out) (List.all_eq_true.1 hal) n1 n2
   obtain ⟨tz, htz⟩ : ∃ z, treE l = z := ⟨_, rfl⟩
   rw [htz] at htr
   have HTR := hide htr
   clear hall hal htr
   by_cases ht0 : tz = 0
   case neg =>
    have hz1 : (tz != 0) = true := by simpa using ht0
    have hz2 : l.err = tz := by rw [err_tree HE.out HM.out HAL.out (by rw [htz]; exact ht0), htz]
    have HZ2 := hide hz2
    clear hz2 ht0 htz
    go_wp2_with (go_at_call 153; refine HTR.out.mono ?_; rintro e w3 ⟨rfl, hB3⟩)
    go_ret
    exact ⟨ret_int HZ2.out.symm, Below.to HBW.out hB3 (Nat.le_refl _)⟩
   case pos =>
   subst ht0
   obtain ⟨g1, g2, g3⟩ := treE_zero htz
   have G1 := hide g1
   have G2 := hide g2
   have G3 := hide g3
   clear g1 g2 g3 htz
   go_wp2_with (go_at_call 153; refine HTR.out.mono ?_; rintro e w3 ⟨rfl, hB3⟩; have HL3 := hide (HLr.out.to hB3); have HB3 := hide (Below.to HBW.out hB3 (Nat.le_refl _)); obtain ⟨d0, d1, d2, d3, d4, d5⟩ := zL (HLr.out.to hB3); have ld := box_lt (HLr.out.to hB3); clear hB3 c0 c1 c2 c3 c4 c5 hlb)
   clear d0 d1 d2 d3 d4 d5 ld
   go_loopw [6] (fun i wr => ∃ k : Nat, k ≤ l.ps.length ∧ i = .int .i64 k ∧ Hid (∀ j, j < k → plOk l j = true) ∧ Hid (Below w3.heap.size w3 wr)) (fun i _ => l.ps.length - (intOf i).toNat)
   case atStart => exact ⟨0, Nat.zero_le _, rfl, fun j hj => by omega, Below.refl _ _⟩
   case round =>
    obtain ⟨k, hk, rfl, hall, hB⟩ := hrel
    have HLr := hide (HL3.out.to hB.out)
    have HBW := hide (Below.to HB3.out hB.out (Nat.le_refl _))
    obtain ⟨c0, c1, c2, c3, c4, c5⟩ := zL HLr.out
    have hlb := box_lt HLr.out
    by_cases hkl : k < l.ps.length
    ·
     have hpl := rplug_any k A0 A1 A2 A3 A4 A5 q0 q1 q2 q3 q4 q5 l wr hkl HS.out (H.out.up HBW.out)
     cases hv : plOk l k with
     | false =>
      rw [hv] at hpl
      have HPL := hide hpl
      have hz2 := err_plug HE.out HM.out HAL.out G1.out G2.out G3.out (by
       rw [← Bool.not_eq_true, List.all_eq_true]
       intro q
       have := q k (by simpa using hkl)
       rw [hv] at this
       cases this)
      have HZ2 := hide hz2
      clear hz2 hv hpl
      go_wp2_with (go_at_call 154; refine HPL.out.mono ?_; rintro e w5 ⟨rfl, hB5⟩)
      go_ret
      exact ⟨ret_int HZ2.out.symm, Below.to HBW.out hB5 (Nat.le_refl _)⟩
     | true =>
      rw [hv] at hpl
      have HPL := hide hpl
      have HV := hide hv
      clear hv hpl
      go_wp2_with (go_at_call 154; refine HPL.out.mono ?_; rintro e w5 ⟨rfl, hB5⟩)
      go_roundw
      case rel => exact ⟨k + 1, by omega, by go_num, fun j hj => by
        rcases Nat.lt_or_ge j k with h | h
        ·
         exact hall.out j h
        ·
         rw [show j = k from by omega]; exact HV.out, Below.to hB.out hB5 (Nat.le_refl _)⟩
      case measure => simp [intOf]; omega
    ·
     have hke : k = l.ps.length := by omega
     subst hke
     have HPA : Hid ((List.range l.ps.length).all (plOk l) = true) := List.all_eq_true.2 fun j hj => hall.out j (by simpa using hj)
     have hew := err_wire HE.out HM.out HAL.out G1.out G2.out G3.out HPA.out
     have HEW := hide hew
     obtain ⟨wt2, hwt2⟩ : ∃ wt2 : World, wt2 = wr := ⟨_, rfl⟩
     subst hwt2
     clear hall hew
     go_wp2_with fail
     clear c0 c1 c2 c3 c4 c5 hlb
     go_loopw [7] (fun i wr => ∃ k : Nat, k ≤ l.ws.length ∧ i = .int .i64 k ∧ Hid (∀ j, j < k → wiErr l j = 0) ∧ Hid (Below wt2.heap.size wt2 wr)) (fun i _ => l.ws.length - (intOf i).toNat)
     case atStart => exact ⟨0, Nat.zero_le _, rfl, fun j hj => by omega, Below.refl _ _⟩
     case round =>
      obtain ⟨k, hk, rfl, hall, hB⟩ := hrel
      have HLq := hide (HLr.out.to hB.out)
      have HBq := hide (Below.to HBW.out hB.out (Nat.le_refl _))
      obtain ⟨c0, c1, c2, c3, c4, c5⟩ := zL HLq.out
      have hlb := box_lt HLq.out
      by_cases hkl : k < l.ws.length
      ·
       have hpl := rwire_any k A0 A1 A2 A3 A4 A5 q0 q1 q2 q3 q4 q5 l wr hkl HS.out (H.out.up HBq.out)
       cases hv : wiOk l k with
       | false =>
        rw [hv] at hpl
        have HPL := hide hpl
        have hwe : wiErr l k = 63 := by unfold wiErr; rw [hv]; rfl
        have hz2 : l.err = 63 := by rw [HEW.out, wiresErr_first hall.out (by rw [hwe]; decide) hkl, hwe]
        have HZ2 := hide hz2
        clear hz2 hv hpl hwe
        go_wp2_with (go_at_call 155; refine HPL.out.mono ?_; rintro e w5 ⟨rfl, hB5⟩)
        go_ret
        exact ⟨ret_int HZ2.out.symm, Below.to HBq.out hB5 (Nat.le_refl _)⟩
       | true =>
        rw [hv] at hpl
        have HPL := hide hpl
        obtain ⟨b, off, x, Af, qf, HX, rfl, hbb, hq, HFO, e0, e1, e2, e3, e4, e5, e6⟩ := (H.out.up HBq.out).wi hkl
        have hfl : x.form.length ≤ maxLen := (HS.out.wn x (by rw [← HX.out]; exact getD_mem3f hkl)).2
        have hwe : wiErr l k = if validF l.m.opts.length x.form = false then 11 else 0 := by unfold wiErr; rw [hv, HX.out]; rfl
        have hEF : l.m.errF [x.form] = if validF l.m.opts.length x.form = false then 11 else 0 := by
         rw [Mo.errF_ok HE.out, List.all_cons, List.all_nil, Bool.and_true]
        have HWE := hide (hwe.trans hEF.symm)
        obtain ⟨fe, hfe⟩ : ∃ z, l.m.errF [x.form] = z := ⟨_, rfl⟩
        have HFE := hide hfe
        have ik0 : (0 : Int) ≤ (k : Int) := by omega
        have ik : (k : Int) < (l.ws.length : Int) := by omega
        have iq : (l.ws.length : Int) ≤ (q5 : Int) := by omega
        have HSZ := hide HS.out.m
        clear hv hpl hwe hEF hfe
        go_upto_region 25 with (go_at_call 155; refine HPL.out.mono ?_; rintro e w5 ⟨rfl, hB5⟩; have HL5 := hide (HLq.out.to hB5); have HB5 := hide (Below.to hB.out hB5 (Nat.le_refl _)); have HBq5 := hide (Below.to HBq.out hB5 (Nat.le_refl _)); obtain ⟨d0, d1, d2, d3, d4, d5⟩ := zL (HLq.out.to hB5); have ld := box_lt (HLq.out.to hB5); have f6 := (hB5.cell (p := ⟨b, off + k * 7 + 6, none⟩) hbb).trans e6; have lb5 : b < w5.heap.size := Nat.lt_of_lt_of_le hbb hB5.size; have HF5 := hide (Ints.up HFO.out hB5); clear hB5 c0 c1 c2 c3 c4 c5 hlb e0 e1 e2 e3 e4 e5 e6)
        refine wp_region_held_drew (S := (fun w' => Below w5.heap.size w5 w')) (by kernel_rfl) ?_ (fun hHeld => ?_)
        ·
         try dsimp only
         exact zP
        refine zT 0 rfl ?_
        refine zT 1 rfl ?_
        refine zT 2 rfl ?_
        refine zT 3 rfl ?_
        refine zT 4 rfl ?_
        refine zT 5 rfl ?_
        refine zT 6 rfl ?_
        refine zT 7 rfl ?_
        refine wpAnyH_ready (rs := [8]) (by kernel_rfl) (by simp) ?_
        refine AllReadyH.cons rfl (fun K hK => ?_) AllReadyH.nil
        go_simp
        ((go_at_call 156; refine (rCheckFormula_any l.m x.form _ _ _ _ HSZ.out hfl ((H.out.up HBq5.out).up (by assumption)).m (HF5.out.up (by assumption))).mono ?_; rw [HFE.out]; rintro e w8 ⟨rfl, hB8⟩))
        (try dsimp only)
        refine hK.out _ _ zP fun hNext => ?_; clear hK K hHeld; have hHeld := hNext; clear hNext; (try dsimp only at hHeld); try simp only [zX]
        refine zT 9 rfl ?_
        refine wpAnyH_done (by kernel_rfl) ?_ _
        by_cases hf0 : fe = 0
        ·
         subst hf0
         have hw0 : wiErr l k = 0 := HWE.out.trans HFE.out
         have HW0 := hide hw0
         clear hw0
         go_wp2_with fail
         go_roundw
         case rel => exact ⟨k + 1, by omega, by go_num, fun j hj => by
           rcases Nat.lt_or_ge j k with h | h
           ·
            exact hall.out j h
           ·
            rw [show j = k from by omega]; exact HW0.out, Below.to HB5.out hHeld (Nat.le_refl _)⟩
         case measure => simp [intOf]; omega
        ·
         have hz1 : (fe != 0) = true := by simpa using hf0
         have hf11 : l.m.errF [x.form] = 11 := by
          have h1 := HFE.out
          rw [Mo.errF_ok HE.out] at h1 ⊢
          by_cases h2 : [x.form].all (validF l.m.opts.length) = false
          ·
           rw [if_pos h2]
          ·
           rw [if_neg h2] at h1; exact absurd h1.symm hf0
         have hz2 : l.err = 11 := by rw [HEW.out, wiresErr_first hall.out (by rw [HWE.out, hf11]; decide) hkl, HWE.out, hf11]
         have HZ2 := hide hz2
         clear hz2 hf0 hf11
         go_wp2_with fail
         go_ret
         exact ⟨ret_int HZ2.out.symm, Below.to HBq5.out hHeld (Nat.le_refl _)⟩
      ·
       have hke : k = l.ws.length := by omega
       subst hke
       have hz2 : l.err = 0 := by rw [HEW.out, wiresErr_at hall.out]
       have HZ2 := hide hz2
       clear hz2
       go_wp2_with fail
       go_ret
       exact ⟨ret_int HZ2.out.symm, HBq.out⟩
structure FoS (w0 wr : World) (B : Nat) (v : Value) (L : List (List Int)) (vs : List Value) : Prop where
 below : Below w0.heap.size w0 wr
 len : vs.length = L.length
 own : wr.ownsRow B 46 1 v L.length vs
 row : ∀ i, i < L.length → wr.ownsRow B 3 1 (vs.getD i undef) (L.getD i []).length ((L.getD i []).map (Value.int .i64))
 lt : w0.heap.size ≤ B ∧ B ≤ wr.heap.size
def WkYes (w : World) (rs : List (Nat × Nat)) (back : Int) (a b : Nat) (Q : List Nat) (e : Ending) (w' : World) : Prop :=
 ∃ (P : List Nat) (Ad : Addr) (cap : Nat), WayP rs back a P b ∧ e = .returned (.slice (some Ad) (Q ++ P).length cap) ∧ Nods w' w'.heap.size (.slice (some Ad) (Q ++ P).length cap) (Q ++ P) ∧ Below w.heap.size w w'
def WkNo (w : World) (e : Ending) (w' : World) : Prop := e = .returned (.slice none 0 0) ∧ Below w.heap.size w w'
def tigB (l : Lo) (k : Nat) : Bool := decide (worE l k = 0) && decide ((l.us.getD k Ru.o).room < worN l k)
def tigL (l : Lo) : List Nat := if l.err = 0 then (List.range l.us.length).filter (tigB l) else []
def TigP (L : List Nat) (er : Int) (w : World) (e : Ending) (w' : World) : Prop := ∃ v, e = .returned (.tuple #[v, .int .i64 er]) ∧ Nods w' w'.heap.size v L ∧ Below w.heap.size w w'
def spF (l : List Sp) (i j : Nat) : Value := spC (l.getD i Sp.o) j
def ruF (l : List Ru) (i j : Nat) : Value := ruC (l.getD i Ru.o) j
def plF (l : List Pl) (i j : Nat) : Value := plC (l.getD i Pl.o) j
def wiF (l : List Wi) (cv : Nat → Value) (i j : Nat) : Value := wiC (l.getD i Wi.o) (cv i) j
def nmF (l : List ByteArray) (i j : Nat) : Value := .string (l.getD i ByteArray.empty)
structure FoO (wr : World) (B : Nat) (v : Value) (L : List (List Int)) (vs : List Value) : Prop where
 len : vs.length = L.length
 own : wr.ownsRow B 46 1 v L.length vs
 row : ∀ i, i < L.length → wr.ownsRow B 3 1 (vs.getD i undef) (L.getD i []).length ((L.getD i []).map (Value.int .i64))
def IntsX (w : World) (X : Nat → Prop) (v : Value) (f : List Int) : Prop :=
 ∃ (A : Option Addr) (b off cap : Nat), v = .slice A f.length cap ∧ f.length ≤ cap ∧ (A = some ⟨b, off, none⟩ ∧ b < w.heap.size ∧ ¬ X b ∨ f.length = 0) ∧ ∀ i, i < f.length → w.cell? ⟨b, off + i, none⟩ = some (.int .i64 (f.getD i 0))
structure CpS (w0 wr : World) (rb p : Nat) (C0 C1 C2 C3 C4 C5 : Option Addr) (r0 r1 r2 r3 r4 r5 : Nat) (l : Lo) (cv : Nat → Value) (vs : List Value) : Prop where
 below : Below w0.heap.size w0 wr
 pw : w0.heap.size ≤ p
 box : wr.heap[p]? = some (.cells #[.slice C0 l.m.opts.length r0, .slice C1 l.m.rules.length r1, .slice C2 l.ss.length r2, .slice C3 l.us.length r3, .slice C4 l.ps.length r4, .slice C5 l.ws.length r5] 31 (0, 0))
 n : wr.ownsRow w0.heap.size 9 1 (.slice C0 l.m.opts.length r0) l.m.opts.length (flat l.m.opts.length 1 (nmF l.m.opts))
 f : FoO wr w0.heap.size (.slice C1 l.m.rules.length r1) l.m.rules vs
 s : wr.ownsRow w0.heap.size 155 3 (.slice C2 l.ss.length r2) l.ss.length (flat l.ss.length 3 (spF l.ss))
 u : wr.ownsRow w0.heap.size 157 4 (.slice C3 l.us.length r3) l.us.length (flat l.us.length 4 (ruF l.us))
 p : wr.ownsRow w0.heap.size 159 3 (.slice C4 l.ps.length r4) l.ps.length (flat l.ps.length 3 (plF l.ps))
 w : wr.ownsRow w0.heap.size 76 7 (.slice C5 l.ws.length r5) l.ws.length (flat l.ws.length 7 (wiF l.ws cv))
 x : ∀ i, i < l.ws.length → IntsX wr (fun b => b = rb ∨ (Value.slice C5 l.ws.length r5).ownBlock = some b) (cv i) (l.ws.getD i Wi.o).form
 rb : rb < w0.heap.size
def copR (w0 : World) (l : Lo) (cv : Nat → Value) (j : Nat) (v : Value) (w : World) : Prop :=
 match j with
 | 0 => w0.heap.size ≤ w.heap.size ∧ ∃ g, v = .slice (some ⟨g, 0, none⟩) 0 0 ∧ w.ownsRow w0.heap.size 155 3 v 0 []
 | 4 => w0.heap.size ≤ w.heap.size ∧ ∃ g, v = .slice (some ⟨g, 0, none⟩) 0 0 ∧ w.ownsRow w0.heap.size 157 4 v 0 []
 | 8 => w0.heap.size ≤ w.heap.size ∧ ∃ g, v = .slice (some ⟨g, 0, none⟩) 0 0 ∧ w.ownsRow w0.heap.size 159 3 v 0 []
 | 12 => w0.heap.size ≤ w.heap.size ∧ ∃ g, v = .slice (some ⟨g, 0, none⟩) 0 0 ∧ w.ownsRow w0.heap.size 76 7 v 0 []
 | 3 => w.ownsRow w0.heap.size 155 3 v l.ss.length (flat l.ss.length 3 (spF l.ss))
 | 7 => w.ownsRow w0.heap.size 157 4 v l.us.length (flat l.us.length 4 (ruF l.us))
 | 11 => w.ownsRow w0.heap.size 159 3 v l.ps.length (flat l.ps.length 3 (plF l.ps))
 | 15 => w.ownsRow w0.heap.size 76 7 v l.ws.length (flat l.ws.length 7 (wiF l.ws cv))
 | 16 => ∃ a b c d, v = .agg #[.slice none 0 0, .slice none 0 0, a, b, c, d] ∧ w.ownsRow w0.heap.size 155 3 a l.ss.length (flat l.ss.length 3 (spF l.ss)) ∧ w.ownsRow w0.heap.size 157 4 b l.us.length (flat l.us.length 4 (ruF l.us)) ∧
   w.ownsRow w0.heap.size 159 3 c l.ps.length (flat l.ps.length 3 (plF l.ps)) ∧ w.ownsRow w0.heap.size 76 7 d l.ws.length (flat l.ws.length 7 (wiF l.ws cv))
 | 17 => ∃ p, v = .pointer (some ⟨p, 0, none⟩) ∧ w0.heap.size ≤ p ∧ w.heap[p]? = some (.cells #[.slice none 0 0, .slice none 0 0, .slice none 0 0, .slice none 0 0, .slice none 0 0, .slice none 0 0] 31 (0, 0))
 | _ => True
def inB (l : Lo) (v : List Bool) (i : Nat) : Bool := holB l.m (l.ws.getD i Wi.o).form v
def carE (l : Lo) (run : Int) (v : List Bool) : Int := havE l (btw run 0 ((l.us.length : Int) - 1) && decide (v.length = l.m.opts.length))
def carL (l : Lo) (run : Int) (v : List Bool) : List Nat := if carE l run v = 0 then (List.range l.ws.length).filter (fun i => thruB l run.toNat i && inB l v i) else []
def exL : Lo := ⟨⟨[⟨#[116, 111, 119]⟩, ⟨#[104, 101, 97, 116]⟩], []⟩, [⟨0, 0, 0⟩, ⟨100, 0, 0⟩, ⟨100, 50, 0⟩, ⟨200, 0, 0⟩], [⟨0, 1, 110, 5⟩, ⟨1, 2, 50, 3⟩, ⟨1, 3, 100, 3⟩],
 [⟨⟨#[97]⟩, 0, 2⟩, ⟨⟨#[98]⟩, 2, 2⟩, ⟨⟨#[99]⟩, 3, 2⟩], [⟨⟨#[120]⟩, 0, 0, 1, 0, 2, [0]⟩, ⟨⟨#[121]⟩, 0, 1, 2, 0, 2, [1]⟩, ⟨⟨#[122]⟩, 0, 0, 2, 1, 1, [1]⟩]⟩
def allocs (w : World) : List Obj → World
 | [] => w
 | o :: r => allocs (w.alloc o) r
theorem allocs_size (w : World) : ∀ os : List Obj, (allocs w os).heap.size = w.heap.size + os.length
 | [] => rfl
 | o :: r => by
  show (allocs (w.alloc o) r).heap.size = _
  rw [allocs_size (w.alloc o) r]
  simp
  omega
theorem allocs_below (w : World) (B : Nat) (hB : B ≤ w.heap.size) : ∀ os : List Obj, Below B w (allocs w os)
 | [] => Below.refl _ _
 | o :: r => ((Below.refl B w).alloc hB o).trans (allocs_below (w.alloc o) B (by simp; omega) r)
theorem allocs_get (w : World) : ∀ (os : List Obj) (i : Nat), i < os.length → (allocs w os).heap[w.heap.size + i]? = os[i]?
 | o :: r, 0, _ => by
  show (allocs (w.alloc o) r).heap[w.heap.size]? = some o
  exact ((allocs_below (w.alloc o) (w.heap.size + 1) (by simp) r).block _ (by omega)).trans (heap_alloc_new w o)
 | o :: r, i + 1, h => by
  have := allocs_get (w.alloc o) r i (by simpa using h)
  show (allocs (w.alloc o) r).heap[w.heap.size + (i + 1)]? = r[i]?
  rw [← this]
  congr 1
  simp
  omega
theorem alloc3x {w w0 : World} {o p q : Obj} (h : ((w.alloc o).alloc p).alloc q = w0) : w0.heap[w.heap.size]? = some o ∧ w0.heap[w.heap.size + 1]? = some p ∧ w0.heap[w.heap.size + 2]? = some q ∧ Below w.heap.size w w0 ∧ w0.heap.size = w.heap.size + 3 := by
 have hw : allocs w [o, p, q] = w0 := h
 subst hw
 exact ⟨allocs_get w _ 0 (by simp), allocs_get w _ 1 (by simp), allocs_get w _ 2 (by simp), allocs_below w _ (Nat.le_refl _) _, allocs_size w _⟩
def filN (l : Lo) (T : List Nat) : Int := (szsL l T).sum
def FilP (n er : Int) (w : World) (e : Ending) (w' : World) : Prop := e = .returned (.tuple #[.int .i64 n, .int .i64 er]) ∧ Below w.heap.size w w'
def whereK (m : Mo) (l : List (List Int)) (k : Nat) : List (List Bool) := (l.take k).foldl whereF (allM m)
theorem pinNe (a b c d : Int) (w : World) : (binOp BinOp.neq 74 (.agg #[.int .i64 a, .int .i64 b]) (.agg #[.int .i64 c, .int .i64 d])).run Tryz.prog w = Result.ok (.bool (!(a == c && b == d))) w := by
 cases h : a == c <;> cases h2 : b == d <;> go_simp
theorem pinEq (a b c d : Int) (w : World) : (binOp BinOp.eql 74 (.agg #[.int .i64 a, .int .i64 b]) (.agg #[.int .i64 c, .int .i64 d])).run Tryz.prog w = Result.ok (.bool (a == c && b == d)) w := by
 cases h : a == c <;> cases h2 : b == d <;> go_simp
def pinB (a b c d : Int) : Bool := a == c && b == d
def sharB (x y : Wi) : Bool := pinB x.fp x.fc y.fp y.fc || pinB x.fp x.fc y.tp y.tc || pinB x.tp x.tc y.fp y.fc || pinB x.tp x.tc y.tp y.tc
def prsL (K : List (Nat × Nat)) : List Value := K.flatMap fun p => [.int .i64 (p.1 : Nat), .int .i64 (p.2 : Nat)]
def prF (p : Nat × Nat) (j : Nat) : Value := match j with
 | 0 => .int .i64 (p.1 : Nat)
 | _ => .int .i64 (p.2 : Nat)
def Prs (w : World) (B : Nat) (v : Value) (K : List (Nat × Nat)) : Prop := Sl w B 2 v K.length (fun i j => prF (K.getD i (0, 0)) j)
structure ClS (w0 wr : World) (ty : Nat) (v : Value) (K : List (Nat × Nat)) : Prop where
 below : Below w0.heap.size w0 wr
 own : wr.ownsRow w0.heap.size ty 2 v K.length (prsL K)
section
variable {w0 wr w' : World} {ty : Nat} {v v1 : Value} {K : List (Nat × Nat)} {a b : Nat} {o : Obj}
theorem ClS.box {g t : Nat} {C : Array Value} (h : ClS w0 wr ty v K) (hb : wr.heap[g]? = some (.cells C t (0, 0))) (hne : ty ≠ t) (hg : (wr.alloc o).grownBy w' v.ownBlock) : w'.heap[g]? = some (.cells C t (0, 0)) :=
 (hg.block g (by have := box_lt hb; simp; omega) (fun e => ownsNot h.own hb hne e.symm)).trans (box_to hb ((Below.refl _ _).alloc (Nat.le_refl _) _))
end
/-! the clashes -/
def claB (l : Lo) (i k : Nat) : Bool := sharB (l.ws.getD i Wi.o) (l.ws.getD k Wi.o) && meeB l.m [(l.ws.getD i Wi.o).form, (l.ws.getD k Wi.o).form]
def claI (l : Lo) (i k : Nat) : List (Nat × Nat) := ((List.range k).filter fun j => decide (i < j) && claB l i j).map fun j => (i, j)
def claO (l : Lo) (i : Nat) : List (Nat × Nat) := (List.range i).flatMap fun j => claI l j l.ws.length
def claE (l : Lo) : List (Nat × Nat) := if l.err = 0 then claO l l.ws.length else []
def PrsP (K : List (Nat × Nat)) (er : Int) (w : World) (e : Ending) (w' : World) : Prop := ∃ v, e = .returned (.tuple #[v, .int .i64 er]) ∧ Prs w' w'.heap.size v K ∧ Below w.heap.size w w'
end Go.Proofs.YtehadoecnmfeoaaGreat

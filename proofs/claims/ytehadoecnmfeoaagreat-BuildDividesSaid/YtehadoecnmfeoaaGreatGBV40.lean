/- Part 40 of this claim's texts: walks and plain laws. -/
import Derived.Test.YtehadoecnmfeoaaGreatRows
import Derived.Test.YtehadoecnmfeoaaGreatGBV39
import Derived.Test.YtehadoecnmfeoaaGreatGBV16
import Derived.Deep.DeepMust
import Derived.Deep.RegionHeld3
import Derived.Deep.DrawnRows
import Derived.Test.YtehadoecnmfeoaaGreatGBV20
import Derived.Test.YtehadoecnmfeoaaGreatGBV17
import Derived.Test.YtehadoecnmfeoaaGreatGBV28
/- Divide (the elder): walk. -/
namespace Go.Proofs.YtehadoecnmfeoaaGreat
open Go.RowKit
set_option linter.unusedVariables false
set_option linter.unusedSimpArgs false
theorem sameV_tg (m : Mo) (f g : List Int) : sameV (allM m) f g = tgB m f g := rfl
theorem where_some (m : Mo) (f : List Int) : (whereF (allM m) f).length = 0 ↔ sometB m f = false := by
  unfold whereF sometB
  rw [List.length_eq_zero_iff, List.filter_eq_nil_iff, List.any_eq_false]
theorem putD_new (D : List Md) (f : List Int) (k : Nat) : putD (D ++ [⟨f, []⟩]) D.length k = D ++ [⟨f, [(k : Int)]⟩] := by
  unfold putD
  have h : (D ++ [(⟨f, []⟩ : Md)]).getD D.length Md.o = ⟨f, []⟩ := by rw [getD_snoc, if_neg (Nat.lt_irrefl _), if_pos rfl]
  rw [h, List.set_append_right _ _ (Nat.le_refl _), Nat.sub_self]
  rfl
set_option maxRecDepth 100000 in
set_option maxHeartbeats 8000000 in
theorem rDivide_any (A0 A1 A2 A3 A4 A5 : Option Addr) (q0 q1 q2 q3 q4 q5 : Nat) (l : Lo) (w : World) (hs : SizedL l) (h : LoA w w.heap.size A0 A1 A2 A3 A4 A5 q0 q1 q2 q3 q4 q5 l) (hN : l.m.err = 0 → l.m.opts.length ≤ 12) :
    Calls Tryz.prog 20 #[.agg #[.slice A0 l.m.opts.length q0, .slice A1 l.m.rules.length q1, .slice A2 l.ss.length q2, .slice A3 l.us.length q3, .slice A4 l.ps.length q4, .slice A5 l.ws.length q5]] w (DivP (divL l) l.err w) := by
  obtain ⟨i0, hi0, iz0, iz1, iz2⟩ := info_parts infoInt
  obtain ⟨i2, hi2, kz0, kz1, kz2⟩ := info_parts infoMod
  have H := hide h
  have HS := hide hs
  have HNN := hide hN
  obtain ⟨er, her⟩ : ∃ z, l.err = z := ⟨_, rfl⟩
  have HER := hide her
  clear h hs hN
  by_cases h0 : er = 0
  case neg =>
    have hp : divL l = [] := by unfold divL; rw [her, if_neg h0]
    rw [hp, her]
    have hz1 : (er != 0) = true := by simpa using h0
    clear her h0 hp
    go_enter Tryz.func20, Tryz.ntmps20
    go_upto_region 1 with (fail)
    generalize hw0 : World.alloc _ _ = w0
    obtain ⟨hb0, hB0, hs0⟩ := alloc1 hw0
    have HB0 := hide hB0
    have c0 := cellOf hb0 0; have c1 := cellOf hb0 1; have c2 := cellOf hb0 2; have c3 := cellOf hb0 3; have c4 := cellOf hb0 4; have c5 := cellOf hb0 5
    have hlb := box_lt hb0
    clear hw0 hb0 hB0 hs0
    go_wp2_with (go_at_call 67; refine (rCheck_any A0 A1 A2 A3 A4 A5 q0 q1 q2 q3 q4 q5 l _ HS.out (H.out.up HB0.out)).mono ?_; rw [HER.out]; rintro e w1 ⟨rfl, hB1⟩; have HB1 := hide (Below.to HB0.out hB1 (Nat.le_refl _)); clear hB1 c0 c1 c2 c3 c4 c5 hlb)
    go_ret2
    exact ⟨_, rfl, Mods.nil _ _, HB1.out⟩
  case pos =>
  subst h0
  have ok := Lo.err_ok her
  have OK := hide ok
  have hN := HNN.out ok.m
  have HMO := hide ok.m
  have hws60 := ok.w60
  have n0 : ((0 : Int) != 0) = false := by decide
  obtain ⟨R, hR⟩ : ∃ z, divL l = z := ⟨_, rfl⟩
  have hRR : divN l l.ws.length = R := by rw [← hR]; unfold divL; rw [if_pos her]
  rw [hR, her]
  have HR := hide hRR
  obtain ⟨V, hV⟩ : ∃ V, allM l.m = V := ⟨_, rfl⟩
  have HVL : Hid (∀ x ∈ V, x.length = l.m.opts.length) := fun x hx => allM_len (by rw [hV]; exact hx)
  have hVn : V.length ≤ 4096 := by
    have h1 := varsN_le l.m (2 ^ l.m.opts.length)
    rw [varsN_all, hV] at h1
    have : 2 ^ l.m.opts.length ≤ 2 ^ 12 := Nat.pow_le_pow_right (by omega) hN
    omega
  have HV := hide hV
  clear her ok hR hRR hV
  go_enter Tryz.func20, Tryz.ntmps20
  go_upto_region 1 with (fail)
  generalize hw0 : World.alloc _ _ = w0
  obtain ⟨hb0, hB0, hs0⟩ := alloc1 hw0
  have HB0 := hide hB0
  have HL0 : Hid (LoBox w0 w.heap.size A0 A1 A2 A3 A4 A5 q0 q1 q2 q3 q4 q5 l) := hb0
  have c0 := cellOf hb0 0; have c1 := cellOf hb0 1; have c2 := cellOf hb0 2; have c3 := cellOf hb0 3; have c4 := cellOf hb0 4; have c5 := cellOf hb0 5
  have hlb := box_lt hb0
  clear hw0 hb0 hB0 hs0
  go_upto_region 5 with (first
    | (go_at_call 67; refine (rCheck_any A0 A1 A2 A3 A4 A5 q0 q1 q2 q3 q4 q5 l _ HS.out (H.out.up HB0.out)).mono ?_; rw [HER.out]; rintro e w1 ⟨rfl, hB1⟩; have HL1 := hide (HL0.out.to hB1); have HB1 := hide (Below.to HB0.out hB1 (Nat.le_refl _)); clear hB1 c0 c1 c2 c3 c4 c5 hlb; have d0 := cellOf HL1.out 0; have d1 := cellOf HL1.out 1; have d2 := cellOf HL1.out 2; have d3 := cellOf HL1.out 3; have d4 := cellOf HL1.out 4; have d5 := cellOf HL1.out 5; have ld := box_lt HL1.out)
    | (go_at_call 59; refine (Variants_any l.m _ _ w1 (H.out.up HB1.out).m HMO.out hN).mono ?_; rw [HV.out]; rintro e w2 ⟨v2, rfl, hv2, hB2⟩; obtain ⟨A7, q7, e7⟩ := GRows.form (GStk.rows hv2); subst e7; have HVS := hide (GStk.rows hv2); have HL2 := hide (HL1.out.to hB2); have HB2 := hide (Below.to HB1.out hB2 (Nat.le_refl _)); clear hv2 hB2 d0 d1 d2 d3 d4 d5 ld))
  obtain ⟨W2, hW2⟩ : ∃ wo : World, wo = w2 := ⟨_, rfl⟩
  subst hW2
  go_wp2_with fail
  go_loopw [6, 7, 8, 9] (fun sv i _ _ wr => ∃ (k : Nat) (D : List Md) (P : List (Value × Value)), i = .int .i64 k ∧ k ≤ l.ws.length ∧ Hid (divN l k = D) ∧ Hid (DvM wr W2.heap.size sv D P) ∧ Hid (Below W2.heap.size W2 wr)) (fun _ i _ _ _ => l.ws.length - (intOf i).toNat)
  case atStart => exact ⟨0, [], [], rfl, Nat.zero_le _, rfl, DvM.nil _ _, Below.refl _ _⟩
  case round =>
    obtain ⟨k, D, P, rfl, hk, HD, HM, HB⟩ := hrel
    have HBr := hide (Below.to HB2.out HB.out (Nat.le_refl _))
    obtain ⟨A9, q9, hv9⟩ := owns_form HM.out.own
    subst hv9
    have HLr := hide (HL2.out.to HB.out)
    have c0 := cellOf HLr.out 0; have c1 := cellOf HLr.out 1; have c2 := cellOf HLr.out 2; have c3 := cellOf HLr.out 3; have c4 := cellOf HLr.out 4; have c5 := cellOf HLr.out 5
    have hlb := box_lt HLr.out
    by_cases hkl : k < l.ws.length
    case neg =>
      have hkl1 : ¬ (k : Int) < (l.ws.length : Int) := by omega
      have hRD : R = D := by rw [← HR.out, ← HD.out, show l.ws.length = k by omega]
      subst hRD
      clear hkl
      go_wp2_with fail
      go_ret2
      exact ⟨_, rfl, HM.out.mods, HBr.out⟩
    case pos =>
    have hkl1 : (k : Int) < (l.ws.length : Int) := by omega
    have ik0 : (0 : Int) ≤ (k : Int) := by omega
    have hDI := divN_i l k
    rw [HD.out] at hDI
    have HDI := hide hDI
    have hD60 : D.length ≤ 60 := by have := hDI.len; omega
    obtain ⟨bw, ow, x, Af, qf, HX, hA5, hbw, hq5, HXF, _, _, _, _, _, _, e6⟩ := H.out.wi hkl
    subst hA5
    have g6 := (HBr.out.cell (p := ⟨bw, ow + k * 7 + 6, none⟩) hbw).trans e6
    have lbw : bw < wr.heap.size := Nat.lt_of_lt_of_le hbw HBr.out.size
    have iq5 : (l.ws.length : Int) ≤ (q5 : Int) := by omega
    have hfx : fmW l k = x.form := by unfold fmW; rw [HX.out]
    have hxv := (LoOk.wi OK.out hkl).2
    rw [HX.out] at hxv
    have HXV := hide hxv
    have HFX := hide hfx
    have hx1000 : x.form.length ≤ 1000 := by
      have h1 := hxv
      unfold validF at h1
      simp only [Bool.and_eq_true, decide_eq_true_eq] at h1
      omega
    have hws := where_some l.m x.form
    rw [HV.out, ← hfx] at hws
    obtain ⟨sb, hsb⟩ : ∃ z, sometB l.m (fmW l k) = z := ⟨_, rfl⟩
    rw [hsb] at hws
    have HSB := hide hsb
    rw [hfx] at hws
    have hwn : (whereF V x.form).length ≤ V.length := List.length_filter_le _ _
    have hwh := Where_any l.m.opts.length V x.form (.slice A7 V.length q7) (.slice Af x.form.length qf) wr (GRows.up HVS.out HB.out) (HXF.out.up HBr.out) HVL.out HXV.out (by omega)
    have HWH := hide hwh
    clear e6 hq5 hxv hfx hsb hDI hwh
    cases sb with
    | false =>
      have HD2 : Hid (divN l (k + 1) = D) := by show divS l (divN l k) k = D; rw [HD.out]; exact div_stays HSB.out
      obtain ⟨wl, hwl⟩ : ∃ z, (whereF V x.form).length = z := ⟨_, rfl⟩
      have hw0 : ((wl : Int) == 0) = true := by
        have h1 := hws.2 rfl
        rw [hwl] at h1
        subst h1
        rfl
      have HWL := hide hwl
      clear hws hwn hwl
      go_wp2_with (go_at_call 68; refine HWH.out.mono ?_; rintro e w3 ⟨v3, rfl, hv3, hB3⟩; obtain ⟨Aw3, q3b, e3⟩ := GRows.form (GStk.rows hv3); rw [HWL.out] at e3; subst e3; have HM3 := hide (HM.out.to hB3); have HB3 := hide (Below.to HB.out hB3 (Nat.le_refl _)); clear hv3 hB3 c0 c1 c2 c3 c4 c5 hlb g6 lbw)
      go_roundw
      case rel => exact ⟨k + 1, D, P, by go_num, by omega, HD2, HM3, HB3⟩
      case measure => simp [intOf]; omega
    | true =>
      obtain ⟨wl, hwl⟩ : ∃ z, (whereF V x.form).length = z := ⟨_, rfl⟩
      have hw0 : ((wl : Int) == 0) = false := by
        have h1 : wl ≠ 0 := fun h => by
          have h2 := hws.1 (by rw [hwl]; exact h)
          cases h2
        simp; omega
      have HWL := hide hwl
      clear hws hwn hwl
      go_upto_region 11 with (go_at_call 68; refine HWH.out.mono ?_; rintro e w3 ⟨v3, rfl, hv3, hB3⟩; obtain ⟨Aw3, q3b, e3⟩ := GRows.form (GStk.rows hv3); rw [HWL.out] at e3; subst e3; have HM3 := hide (HM.out.to hB3); have HB3 := hide (Below.to HB.out hB3 (Nat.le_refl _)); clear hv3 hB3 c0 c1 c2 c3 c4 c5 hlb g6 lbw)
      obtain ⟨W3, hW3⟩ : ∃ wo : World, wo = w3 := ⟨_, rfl⟩
      subst hW3
      have HBr3 := hide (Below.to HB2.out HB3.out (Nat.le_refl _))
      go_wp2_with fail
      go_loopw [9] (fun a wr => ∃ i : Nat, a = .int .i64 i ∧ i ≤ D.length ∧ Hid (∀ q, q < i → tgB l.m (D.getD q Md.o).f (fmW l k) = false) ∧ Hid (Below W3.heap.size W3 wr)) (fun a _ => D.length - (intOf a).toNat)
      case atStart => exact ⟨0, rfl, Nat.zero_le _, fun q hq => absurd hq (by omega), Below.refl _ _⟩
      case round =>
        obtain ⟨i, rfl, hi, HNO, HW⟩ := hrel
        by_cases hiD : i < D.length
        case pos =>
          have hi1 : (i : Int) < (D.length : Int) := by omega
          have hi1b : decide ((i : Int) < (D.length : Int)) = true := decide_eq_true hi1
          have hi0b : (0 : Int) ≤ (i : Int) := by omega
          have hBs := Below.to HBr3.out HW.out (Nat.le_refl _)
          obtain ⟨g, hA9, hgB0, hq90, cur0, hcur0⟩ := own_at7 HM3.out.own (by omega)
          subst hA9
          obtain ⟨bm, om, d, Ad, qd, Aw, qw, HDD, hA8, hbm, hq8, HDF, _, d0, _⟩ := Mods.at (HM3.out.to HW.out).mods hiD
          injection hA8 with hA8
          injection hA8 with q1x q2x
          subst q1x q2x
          rw [Nat.zero_add] at d0
          clear hgB0 hq90 hcur0
          have hdf : d.f.length ≤ 1000 ∧ validF l.m.opts.length d.f = true := by
            obtain ⟨w0, t, h4, h5, h6, h7⟩ := HDI.out.at_ i hiD
            rw [HDD.out] at h6
            have h8 := (LoOk.wi OK.out (show w0 < l.ws.length by omega)).2
            rw [show (l.ws.getD w0 Wi.o).form = d.f from h6.symm] at h8
            refine ⟨?_, h8⟩
            unfold validF at h8
            simp only [Bool.and_eq_true, decide_eq_true_eq] at h8
            omega
          have iq8 : (D.length : Int) ≤ (q9 : Int) := by omega
          have HTG := hide (rtogether_any V l.m.opts.length d.f x.form A7 q7 Ad qd Af qf wr (GRows.up (GRows.up HVS.out HB3.out) HW.out) (by omega) HVL.out HDF.out (HXF.out.up hBs) hdf.2 HXV.out)
          obtain ⟨z, hz⟩ : ∃ z, tgB l.m d.f (fmW l k) = z := ⟨_, rfl⟩
          have hz2 : sameV V d.f x.form = z := by rw [← hz, HFX.out, ← HV.out, sameV_tg]
          have HZ := hide hz
          have HZ2 := hide hz2
          clear hq8 hdf hz hz2 hBs
          cases z with
          | false =>
            have HNO2 : Hid (∀ q, q < i + 1 → tgB l.m (D.getD q Md.o).f (fmW l k) = false) := fun q hq => by
              rcases Nat.lt_or_ge q i with h1 | h1
              · exact HNO.out q h1
              · rw [show q = i by omega, HDD.out]; exact HZ.out
            go_wp2_with (go_at_call 69; refine HTG.out.mono ?_; rw [HZ2.out]; rintro e w5 ⟨rfl, hB5⟩; have HW5 := hide (Below.to HW.out hB5 (Nat.le_refl _)); clear hB5 d0 hbm)
            go_roundw
            case rel => exact ⟨i + 1, by go_num, by omega, HNO2, HW5⟩
            case measure => simp [intOf]; omega
          | true =>
            have hfj : fndD l D k = (i : Int) := idxI_at (fun d : Md => tgB l.m d.f (fmW l k)) Md.o D i HNO.out hiD (by rw [HDD.out]; exact HZ.out)
            have HD2 : Hid (divN l (k + 1) = putD D i k) := by show divS l (divN l k) k = _; rw [HD.out, div_put HSB.out hfj]
            have hne : ((i : Int) == (D.length : Int)) = false := by simp; omega
            have HDL : Hid ((D.getD i Md.o).ws.length ≤ 60) := by
              obtain ⟨w0, t, h4, h5, h6, h7⟩ := HDI.out.at_ i hiD
              show _ ≤ _
              rw [h4, List.length_cons]
              omega
            clear hfj
            go_upto_region 16 with (go_at_call 69; refine HTG.out.mono ?_; rw [HZ2.out]; rintro e w4 ⟨rfl, hB4⟩; have hBx := Below.to HW.out hB4 (Nat.le_refl _); have HM4 := hide (HM3.out.to hBx); have HB4 := hide (Below.to HB3.out hBx (Nat.le_refl _)); clear hB4 hBx d0 hbm HTG)
            obtain ⟨j, hj⟩ : ∃ j : Nat, j = i := ⟨_, rfl⟩
            obtain ⟨D1, hD1⟩ : ∃ z, z = D := ⟨_, rfl⟩
            obtain ⟨P1, hP1⟩ : ∃ z, z = P := ⟨_, rfl⟩
            obtain ⟨q9b, hq9b⟩ : ∃ z, z = q9 := ⟨_, rfl⟩
            subst hj hD1 hP1 hq9b
            have hjD := hiD
            obtain ⟨g9, hA9, hgB, hq9, cur, hcur⟩ := own_at7 HM4.out.own (by omega)
            injection hA9 with hA9
            injection hA9 with q3x
            subst q3x
            obtain ⟨gv, hgv⟩ : ∃ z, (P1.getD j (undef, undef)).2 = z := ⟨_, rfl⟩
            obtain ⟨d, hd⟩ : ∃ z, D1.getD j Md.o = z := ⟨_, rfl⟩
            have hgr := HM4.out.g j hjD
            rw [hgv, hd] at hgr
            obtain ⟨Ag, qg, hgve⟩ := owns_form hgr
            subst hgve
            have hdl : d.ws.length ≤ 60 := by rw [← hd]; exact HDL.out
            have HGR := hide hgr
            have HGV := hide hgv
            have HDE := hide hd
            have c0 := HM4.out.own.cellAt (j * 2 + 1) (by omega)
            rw [flat2_at1 P1 (by rw [HM4.out.len]; exact hjD), HGV.out] at c0
            have lg := box_lt hcur
            have hgw4 : g < w4.heap.size := lg
            have ij0 : (0 : Int) ≤ (j : Int) := by omega
            have ij1 : (j : Int) < (D1.length : Int) := by omega
            have iq9 : (D1.length : Int) ≤ (q9b : Int) := by omega
            have HSLO : Hid (∀ i, twoS (.slice Ag d.ws.length qg) g i → W2.heap.size ≤ i) := fun i hi => by
              rcases hi with hi | hi
              · omega
              · exact (HGR.out.lt9 i hi).1
            have HSZ4 : Hid (W2.heap.size ≤ w4.heap.size) := HB4.out.size
            clear hgr hgv hd hcur
            go_wp2_with (at_builtin; refine wpList_append_own_at _ rfl (.tmp 69) (.tmp 71) _ rfl W2.heap.size 3 i0 _ 1 8 Tryz.underlying45 hi0 iz0 iz1 iz2 rfl (by omega) _ _ _ rfl (World.ownsRow.alloc (show w4.ownsRow W2.heap.size 3 1 (.slice Ag d.ws.length qg) d.ws.length (d.ws.map (Value.int .i64)) from HGR.out) _) ⟨w4.heap.size, 0, none⟩ 1 1 [.int .i64 (k : Nat)] rfl rfl (World.news_of_block (heap_alloc_new w4 _)) (by simp [Value.oneCell']) (by unfold maxLen; omega) (by omega) (by have h2 := HSZ4.out; simp; omega) ?_; intro v6 w6 hown6 hg6 _ hat6; obtain ⟨A6, q6, hv6⟩ := owns_form hown6; subst hv6; have hKeep : Hid (Keeps (twoS (.slice Ag d.ws.length qg) g) w4 w6) := Keeps.trans ((Keeps.refl _ w4).alloc _) (Keeps.of_grown hg6 (fun i hi => Or.inr hi)) (fun _ _ h => h); have hKeepS : Hid (∀ u, Keeps (twoS (.slice Ag d.ws.length qg) g) w4 (w6.setCell ⟨g, j * 2 + 1, none⟩ u)) := (fun u => hKeep.out.setCell (.inl (Or.inl rfl)) u); have ho6 := ownsKeep HM4.out.own HGR.out (by decide) hg6; have j0 := ho6.cellAt (j * 2 + 1) (by omega); rw [flat2_at1 P1 (by rw [HM4.out.len]; exact hjD), HGV.out] at j0; have j1 := ho6.frozenAt (j * 2 + 1); have jl : g < w6.heap.size := Nat.lt_of_lt_of_le hgw4 hKeep.out.size; have HOWN := hide hown6; have HG6 := hide hg6; have HAT := hide hat6; clear ho6 hown6 hg6 hat6 c0 lg)
            generalize hw9 : World.setCell _ _ _ = w9
            have hM9 := DvM.add HM4.out rfl hjD (by rw [HDE.out]; exact HOWN.out) (by rw [HGV.out]; exact HG6.out) (by rw [HGV.out]; exact HAT.out) hw9
            have hK9 : Keeps (twoS (.slice Ag d.ws.length qg) g) w4 w9 := by rw [← hw9]; exact hKeepS.out _
            have hB9 : Below W2.heap.size W2 w9 := Below.trans HB4.out (hK9.below HSZ4.out (fun i hi => HSLO.out i hi))
            have HM9 := hide hM9
            have HB9 := hide hB9
            clear hw9 hM9 hK9 hB9 j0 j1 jl
            go_wp2_with fail
            go_roundw
            case rel => exact ⟨k + 1, _, _, by go_num, by omega, HD2, HM9, HB9⟩
            case measure => simp [intOf]; omega
        case neg =>
          have hi1 : ¬ (i : Int) < (D.length : Int) := by omega
          have hi1b : decide ((i : Int) < (D.length : Int)) = false := decide_eq_false hi1
          have hie : i = D.length := by omega
          have hne : ((i : Int) == (D.length : Int)) = true := by simp; omega
          have hfj : fndD l D k = -1 := idxI_none (fun d : Md => tgB l.m d.f (fmW l k)) Md.o D fun q hq => HNO.out q (by omega)
          have HD2 : Hid (divN l (k + 1) = putD (D ++ [⟨x.form, []⟩]) i k) := by show divS l (divN l k) k = _; rw [HD.out, div_new HSB.out (by omega), HFX.out, hie, putD_new]
          have HBs := hide (Below.to HBr3.out HW.out (Nat.le_refl _))
          have HMr := hide (HM3.out.to HW.out)
          have HBr2 := hide (Below.to HB3.out HW.out (Nat.le_refl _))
          have HXr := hide (HXF.out.up HBs.out)
          have HIE := hide hie
          clear hfj hiD hie
          go_upto_region 16 with (first
            | (at_builtin; refine wpList_append_any _ rfl (.const (.slice none 0 0)) (.tmp 58) _ rfl wr.heap.size 3 i0 _ 1 8 Tryz.underlying46 hi0 iz0 iz1 iz2 rfl (by decide) _ 0 [] rfl (World.ownsRow_nil _ _ _ _) wr.heap.size Af x.form.length qf (x.form.map (Value.int .i64)) rfl (Ints.flat7 HXr.out) one_int48 (by unfold maxLen; omega) (by omega) (Nat.le_refl _) ?_; intro v1 w1 hown1 hg1 _; rw [Nat.zero_add, List.nil_append] at hown1; obtain ⟨A1x, q1x, hv1⟩ := owns_form hown1; subst hv1; have HO1 := hide hown1; have HBa := hide (Below.grown (Below.refl wr.heap.size wr) hg1 (Nat.le_refl _) (fun j hj => by cases hj)); have HMa := hide (HMr.out.to HBa.out); clear hown1 hg1)
            | (at_builtin; have hgd := HMa; clear hgd; refine wpList_append_own_at _ rfl (.tmp 57) (.tmp 61) _ rfl W2.heap.size 48 i2 _ 2 48 Tryz.underlying32 hi2 kz0 kz1 kz2 rfl (by omega) _ _ _ rfl (HMa.out.own.alloc _) ⟨w1.heap.size, 0, none⟩ 1 1 [.slice A1x x.form.length q1x, .slice none 0 0] rfl rfl (World.news_of_block (heap_alloc_new w1 _)) (by simp [Value.oneCell']) (by unfold maxLen; omega) (by omega) (by have h1 := HBa.out.size; have h2 := HBr2.out.size; simp; omega) ?_; intro v4 w4 hown4 hg4 _ hat4; obtain ⟨A9b, q9b, hv4⟩ := owns_form hown4; subst hv4; have HM4 := hide (DvM.push (n := wr.heap.size) HMa.out (owns_base (show w1.ownsRow wr.heap.size 3 1 (.slice A1x x.form.length q1x) x.form.length (x.form.map (Value.int .i64)) from HO1.out) HBr2.out.size) (show RowI w1 W2.heap.size (.slice none 0 0) [] from World.ownsRow_nil _ _ _ _) (fun i hi => ⟨fun j hj => ((HMr.out.f i hi).lt9 j hj).2, fun j hj => ((HMr.out.g i hi).lt9 j hj).2⟩) (fun j hj => (World.ownsRow.lt HO1.out j hj).1) (fun j hj => by cases hj) (fun j _ hj => by cases hj) hown4 hg4); have HB4 : Hid (Below W2.heap.size W2 w4) := Below.grown (Below.to HBr2.out (Below.allocT HBa.out (Nat.le_refl _) _) (Nat.le_refl _)) hg4 (by have h1 := HBa.out.size; have h2 := HBr2.out.size; simp; omega) (fun j hj => (HMr.out.own.lt j hj).1); clear hown4 hg4 hat4))
          obtain ⟨D1, hD1⟩ : ∃ z, D ++ [(⟨x.form, []⟩ : Md)] = z := ⟨_, rfl⟩
          obtain ⟨P1, hP1⟩ : ∃ z, P ++ [(Value.slice A1x x.form.length q1x, Value.slice none 0 0)] = z := ⟨_, rfl⟩
          have hl1 : D1.length = D.length + 1 := by rw [← hD1]; simp
          have HDL : Hid ((D1.getD i Md.o).ws.length ≤ 60) := by
            show _ ≤ _
            rw [← hD1, getD_snoc, if_neg (by have := HIE.out; omega), if_pos HIE.out]
            exact Nat.zero_le _
          rw [hD1, hP1, ← hl1] at HM4
          rw [hD1] at HD2
          rw [← hl1]
          obtain ⟨j, hj⟩ : ∃ j : Nat, j = i := ⟨_, rfl⟩
          subst hj
          have hjD : j < D1.length := by have := HIE.out; omega
          clear hD1 hP1
          have HL1x := hide hl1
          clear hl1
          obtain ⟨g, hA9, hgB, hq9, cur, hcur⟩ := own_at7 HM4.out.own (by omega)
          subst hA9
          obtain ⟨gv, hgv⟩ : ∃ z, (P1.getD j (undef, undef)).2 = z := ⟨_, rfl⟩
          obtain ⟨d, hd⟩ : ∃ z, D1.getD j Md.o = z := ⟨_, rfl⟩
          have hgr := HM4.out.g j hjD
          rw [hgv, hd] at hgr
          obtain ⟨Ag, qg, hgve⟩ := owns_form hgr
          subst hgve
          have hdl : d.ws.length ≤ 60 := by rw [← hd]; exact HDL.out
          have HGR := hide hgr
          have HGV := hide hgv
          have HDE := hide hd
          have c0 := HM4.out.own.cellAt (j * 2 + 1) (by omega)
          rw [flat2_at1 P1 (by rw [HM4.out.len]; exact hjD), HGV.out] at c0
          have lg := box_lt hcur
          have hgw4 : g < w4.heap.size := lg
          have ij0 : (0 : Int) ≤ (j : Int) := by omega
          have ij1 : (j : Int) < (D1.length : Int) := by omega
          have iq9 : (D1.length : Int) ≤ (q9b : Int) := by omega
          have HSLO : Hid (∀ i, twoS (.slice Ag d.ws.length qg) g i → W2.heap.size ≤ i) := fun i hi => by
            rcases hi with hi | hi
            · omega
            · exact (HGR.out.lt9 i hi).1
          have HSZ4 : Hid (W2.heap.size ≤ w4.heap.size) := HB4.out.size
          clear hgr hgv hd hcur
          go_wp2_with (at_builtin; go_must (refine wpList_append_own_at _ rfl (.tmp 69) (.tmp 71) _ rfl W2.heap.size 3 i0 _ 1 8 Tryz.underlying45 hi0 iz0 iz1 iz2 rfl (by omega) _ _ _ rfl (World.ownsRow.alloc (show w4.ownsRow W2.heap.size 3 1 (.slice Ag d.ws.length qg) d.ws.length (d.ws.map (Value.int .i64)) from HGR.out) _) ⟨w4.heap.size, 0, none⟩ 1 1 [.int .i64 (k : Nat)] rfl rfl (World.news_of_block (heap_alloc_new w4 _)) (by simp [Value.oneCell']) (by unfold maxLen; omega) (by omega) (by have h2 := HSZ4.out; simp; omega) ?_); intro v6 w6 hown6 hg6 _ hat6; obtain ⟨A6, q6, hv6⟩ := owns_form hown6; subst hv6; have hKeep : Hid (Keeps (twoS (.slice Ag d.ws.length qg) g) w4 w6) := Keeps.trans ((Keeps.refl _ w4).alloc _) (Keeps.of_grown hg6 (fun i hi => Or.inr hi)) (fun _ _ h => h); have hKeepS : Hid (∀ u, Keeps (twoS (.slice Ag d.ws.length qg) g) w4 (w6.setCell ⟨g, j * 2 + 1, none⟩ u)) := (fun u => hKeep.out.setCell (.inl (Or.inl rfl)) u); have ho6 := ownsKeep HM4.out.own HGR.out (by decide) hg6; have j0 := ho6.cellAt (j * 2 + 1) (by omega); rw [flat2_at1 P1 (by rw [HM4.out.len]; exact hjD), HGV.out] at j0; have j1 := ho6.frozenAt (j * 2 + 1); have jl : g < w6.heap.size := Nat.lt_of_lt_of_le hgw4 hKeep.out.size; have HOWN := hide hown6; have HG6 := hide hg6; have HAT := hide hat6; clear ho6 hown6 hg6 hat6 c0 lg)
          generalize hw9 : World.setCell _ _ _ = w9
          have hM9 := DvM.add HM4.out rfl hjD (by rw [HDE.out]; exact HOWN.out) (by rw [HGV.out]; exact HG6.out) (by rw [HGV.out]; exact HAT.out) hw9
          have hK9 : Keeps (twoS (.slice Ag d.ws.length qg) g) w4 w9 := by rw [← hw9]; exact hKeepS.out _
          have hB9 : Below W2.heap.size W2 w9 := Below.trans HB4.out (hK9.below HSZ4.out (fun i hi => HSLO.out i hi))
          have HM9 := hide hM9
          have HB9 := hide hB9
          clear hw9 hM9 hK9 hB9 j0 j1 jl
          go_wp2_with fail
          go_roundw
          case rel => exact ⟨k + 1, _, _, by go_num, by omega, HD2, HM9, HB9⟩
          case measure => simp [intOf]; omega
end Go.Proofs.YtehadoecnmfeoaaGreat
/- How large a loom and modules are: walk. -/
namespace Go.Proofs.YtehadoecnmfeoaaGreat
open Go.RowKit
set_option linter.unusedVariables false
set_option linter.unusedSimpArgs false
def lrgB (l : Lo) (ms : List Md) : Bool := largeB l.m || (decide (12 < l.ws.length) && decide (l.ws.length ≤ 60)) || (decide (8 < ms.length) && decide (ms.length ≤ 60))
theorem lrg_small {l : Lo} {ms : List Md} (h : lrgB l ms = false) (he : l.m.err = 0) : l.m.opts.length ≤ 9 ∧ l.m.rules.length ≤ 12 := by
  unfold lrgB at h
  simp only [Bool.or_eq_false_iff] at h
  exact large_small h.1.1 he
set_option maxRecDepth 100000 in
set_option maxHeartbeats 4000000 in
theorem large12_any (ms : List Md) (Am : Option Addr) (qm : Nat) (A0 A1 A2 A3 A4 A5 : Option Addr) (q0 q1 q2 q3 q4 q5 : Nat) (l : Lo) (w : World) (h : LoA w w.heap.size A0 A1 A2 A3 A4 A5 q0 q1 q2 q3 q4 q5 l) :
    Calls Tryz.prog 14 #[.agg #[.slice A0 l.m.opts.length q0, .slice A1 l.m.rules.length q1, .slice A2 l.ss.length q2, .slice A3 l.us.length q3, .slice A4 l.ps.length q4, .slice A5 l.ws.length q5], .slice Am ms.length qm] w fun e w' => e = .returned (.bool (lrgB l ms)) ∧ Below w.heap.size w w' := by
  have H := hide h
  clear h
  cases hlg : largeB l.m with
  | true =>
    have HLG := hide hlg
    have HLB := hide hlg
    clear hlg
    have hr : lrgB l ms = true := by unfold lrgB; rw [HLG.out]; rfl
    have HR := hide hr
    clear hr HLB
    go_enter Tryz.func14, Tryz.ntmps14
    go_upto_region 1 with (fail)
    generalize hw0 : World.alloc _ _ = w0
    obtain ⟨hb0, hB0, hs0⟩ := alloc1 hw0
    have HB0 := hide hB0
    have HL0 : Hid (LoBox w0 w.heap.size A0 A1 A2 A3 A4 A5 q0 q1 q2 q3 q4 q5 l) := hb0
    have c0 := cellOf hb0 0; have c1 := cellOf hb0 1; have c2 := cellOf hb0 2; have c3 := cellOf hb0 3; have c4 := cellOf hb0 4; have c5 := cellOf hb0 5
    have hlb := box_lt hb0
    clear hw0 hb0 hB0 hs0
    go_wp2_with (go_at_call 51; refine (Large_any l.m _ _ _ (H.out.up HB0.out).m).mono ?_; rw [HLG.out]; rintro e w1 ⟨rfl, hB1⟩; have HL1 := hide (HL0.out.to hB1); have HB1 := hide (Below.to HB0.out hB1 (Nat.le_refl _)); clear hB1 c0 c1 c2 c3 c4 c5 hlb; have c0 := cellOf HL1.out 0; have c1 := cellOf HL1.out 1; have c2 := cellOf HL1.out 2; have c3 := cellOf HL1.out 3; have c4 := cellOf HL1.out 4; have c5 := cellOf HL1.out 5; have hlb := box_lt HL1.out)
    go_ret
    exact ⟨ret_bool HR.out.symm, HB1.out⟩
  | false =>
    have HLG := hide hlg
    have HLB := hide hlg
    clear hlg
    by_cases c1 : (12 : Int) < (l.ws.length : Int)
    · by_cases c2 : (l.ws.length : Int) ≤ 60
      · skip
        have hr : lrgB l ms = true := by unfold lrgB; rw [HLG.out, decide_eq_true (show 12 < l.ws.length by omega), decide_eq_true (show l.ws.length ≤ 60 by omega)]; rfl
        have d1 : decide ((12 : Int) < (l.ws.length : Int)) = true := decide_eq_true c1
        have d2 : decide ((l.ws.length : Int) ≤ 60) = true := decide_eq_true c2
        have HR := hide hr
        clear hr HLB
        go_enter Tryz.func14, Tryz.ntmps14
        go_upto_region 1 with (fail)
        generalize hw0 : World.alloc _ _ = w0
        obtain ⟨hb0, hB0, hs0⟩ := alloc1 hw0
        have HB0 := hide hB0
        have HL0 : Hid (LoBox w0 w.heap.size A0 A1 A2 A3 A4 A5 q0 q1 q2 q3 q4 q5 l) := hb0
        have c0 := cellOf hb0 0; have c1 := cellOf hb0 1; have c2 := cellOf hb0 2; have c3 := cellOf hb0 3; have c4 := cellOf hb0 4; have c5 := cellOf hb0 5
        have hlb := box_lt hb0
        clear hw0 hb0 hB0 hs0
        go_wp2_with (go_at_call 51; refine (Large_any l.m _ _ _ (H.out.up HB0.out).m).mono ?_; rw [HLG.out]; rintro e w1 ⟨rfl, hB1⟩; have HL1 := hide (HL0.out.to hB1); have HB1 := hide (Below.to HB0.out hB1 (Nat.le_refl _)); clear hB1 c0 c1 c2 c3 c4 c5 hlb; have c0 := cellOf HL1.out 0; have c1 := cellOf HL1.out 1; have c2 := cellOf HL1.out 2; have c3 := cellOf HL1.out 3; have c4 := cellOf HL1.out 4; have c5 := cellOf HL1.out 5; have hlb := box_lt HL1.out)
        go_ret
        exact ⟨ret_bool HR.out.symm, HB1.out⟩
      · skip
        by_cases c3 : (8 : Int) < (ms.length : Int)
        · skip
          have hr : lrgB l ms = decide ((ms.length : Int) ≤ 60) := by unfold lrgB; rw [HLG.out, decide_eq_false (show ¬ l.ws.length ≤ 60 by omega), Bool.and_false, decide_eq_true (show 8 < ms.length by omega), Bool.false_or, Bool.true_and]; exact decide_eq_decide.2 (by omega)
          have d1 : decide ((12 : Int) < (l.ws.length : Int)) = true := decide_eq_true c1
          have d2 : decide ((l.ws.length : Int) ≤ 60) = false := decide_eq_false c2
          have d3 : decide ((8 : Int) < (ms.length : Int)) = true := decide_eq_true c3
          have HR := hide hr
          clear hr HLB
          go_enter Tryz.func14, Tryz.ntmps14
          go_upto_region 1 with (fail)
          generalize hw0 : World.alloc _ _ = w0
          obtain ⟨hb0, hB0, hs0⟩ := alloc1 hw0
          have HB0 := hide hB0
          have HL0 : Hid (LoBox w0 w.heap.size A0 A1 A2 A3 A4 A5 q0 q1 q2 q3 q4 q5 l) := hb0
          have c0 := cellOf hb0 0; have c1 := cellOf hb0 1; have c2 := cellOf hb0 2; have c3 := cellOf hb0 3; have c4 := cellOf hb0 4; have c5 := cellOf hb0 5
          have hlb := box_lt hb0
          clear hw0 hb0 hB0 hs0
          go_wp2_with (go_at_call 51; refine (Large_any l.m _ _ _ (H.out.up HB0.out).m).mono ?_; rw [HLG.out]; rintro e w1 ⟨rfl, hB1⟩; have HL1 := hide (HL0.out.to hB1); have HB1 := hide (Below.to HB0.out hB1 (Nat.le_refl _)); clear hB1 c0 c1 c2 c3 c4 c5 hlb; have c0 := cellOf HL1.out 0; have c1 := cellOf HL1.out 1; have c2 := cellOf HL1.out 2; have c3 := cellOf HL1.out 3; have c4 := cellOf HL1.out 4; have c5 := cellOf HL1.out 5; have hlb := box_lt HL1.out)
          go_ret
          exact ⟨ret_bool HR.out.symm, HB1.out⟩
        · skip
          have hr : lrgB l ms = false := by unfold lrgB; rw [HLG.out, decide_eq_false (show ¬ l.ws.length ≤ 60 by omega), Bool.and_false, decide_eq_false (show ¬ 8 < ms.length by omega)]; simp
          have d1 : decide ((12 : Int) < (l.ws.length : Int)) = true := decide_eq_true c1
          have d2 : decide ((l.ws.length : Int) ≤ 60) = false := decide_eq_false c2
          have d3 : decide ((8 : Int) < (ms.length : Int)) = false := decide_eq_false c3
          have HR := hide hr
          clear hr HLB
          go_enter Tryz.func14, Tryz.ntmps14
          go_upto_region 1 with (fail)
          generalize hw0 : World.alloc _ _ = w0
          obtain ⟨hb0, hB0, hs0⟩ := alloc1 hw0
          have HB0 := hide hB0
          have HL0 : Hid (LoBox w0 w.heap.size A0 A1 A2 A3 A4 A5 q0 q1 q2 q3 q4 q5 l) := hb0
          have c0 := cellOf hb0 0; have c1 := cellOf hb0 1; have c2 := cellOf hb0 2; have c3 := cellOf hb0 3; have c4 := cellOf hb0 4; have c5 := cellOf hb0 5
          have hlb := box_lt hb0
          clear hw0 hb0 hB0 hs0
          go_wp2_with (go_at_call 51; refine (Large_any l.m _ _ _ (H.out.up HB0.out).m).mono ?_; rw [HLG.out]; rintro e w1 ⟨rfl, hB1⟩; have HL1 := hide (HL0.out.to hB1); have HB1 := hide (Below.to HB0.out hB1 (Nat.le_refl _)); clear hB1 c0 c1 c2 c3 c4 c5 hlb; have c0 := cellOf HL1.out 0; have c1 := cellOf HL1.out 1; have c2 := cellOf HL1.out 2; have c3 := cellOf HL1.out 3; have c4 := cellOf HL1.out 4; have c5 := cellOf HL1.out 5; have hlb := box_lt HL1.out)
          go_ret
          exact ⟨ret_bool HR.out.symm, HB1.out⟩
    · skip
      by_cases c3 : (8 : Int) < (ms.length : Int)
      · skip
        have hr : lrgB l ms = decide ((ms.length : Int) ≤ 60) := by unfold lrgB; rw [HLG.out, decide_eq_false (show ¬ 12 < l.ws.length by omega), Bool.false_and, decide_eq_true (show 8 < ms.length by omega), Bool.false_or, Bool.true_and]; exact decide_eq_decide.2 (by omega)
        have d1 : decide ((12 : Int) < (l.ws.length : Int)) = false := decide_eq_false c1
        have d3 : decide ((8 : Int) < (ms.length : Int)) = true := decide_eq_true c3
        have HR := hide hr
        clear hr HLB
        go_enter Tryz.func14, Tryz.ntmps14
        go_upto_region 1 with (fail)
        generalize hw0 : World.alloc _ _ = w0
        obtain ⟨hb0, hB0, hs0⟩ := alloc1 hw0
        have HB0 := hide hB0
        have HL0 : Hid (LoBox w0 w.heap.size A0 A1 A2 A3 A4 A5 q0 q1 q2 q3 q4 q5 l) := hb0
        have c0 := cellOf hb0 0; have c1 := cellOf hb0 1; have c2 := cellOf hb0 2; have c3 := cellOf hb0 3; have c4 := cellOf hb0 4; have c5 := cellOf hb0 5
        have hlb := box_lt hb0
        clear hw0 hb0 hB0 hs0
        go_wp2_with (go_at_call 51; refine (Large_any l.m _ _ _ (H.out.up HB0.out).m).mono ?_; rw [HLG.out]; rintro e w1 ⟨rfl, hB1⟩; have HL1 := hide (HL0.out.to hB1); have HB1 := hide (Below.to HB0.out hB1 (Nat.le_refl _)); clear hB1 c0 c1 c2 c3 c4 c5 hlb; have c0 := cellOf HL1.out 0; have c1 := cellOf HL1.out 1; have c2 := cellOf HL1.out 2; have c3 := cellOf HL1.out 3; have c4 := cellOf HL1.out 4; have c5 := cellOf HL1.out 5; have hlb := box_lt HL1.out)
        go_ret
        exact ⟨ret_bool HR.out.symm, HB1.out⟩
      · skip
        have hr : lrgB l ms = false := by unfold lrgB; rw [HLG.out, decide_eq_false (show ¬ 12 < l.ws.length by omega), Bool.false_and, decide_eq_false (show ¬ 8 < ms.length by omega)]; simp
        have d1 : decide ((12 : Int) < (l.ws.length : Int)) = false := decide_eq_false c1
        have d3 : decide ((8 : Int) < (ms.length : Int)) = false := decide_eq_false c3
        have HR := hide hr
        clear hr HLB
        go_enter Tryz.func14, Tryz.ntmps14
        go_upto_region 1 with (fail)
        generalize hw0 : World.alloc _ _ = w0
        obtain ⟨hb0, hB0, hs0⟩ := alloc1 hw0
        have HB0 := hide hB0
        have HL0 : Hid (LoBox w0 w.heap.size A0 A1 A2 A3 A4 A5 q0 q1 q2 q3 q4 q5 l) := hb0
        have c0 := cellOf hb0 0; have c1 := cellOf hb0 1; have c2 := cellOf hb0 2; have c3 := cellOf hb0 3; have c4 := cellOf hb0 4; have c5 := cellOf hb0 5
        have hlb := box_lt hb0
        clear hw0 hb0 hB0 hs0
        go_wp2_with (go_at_call 51; refine (Large_any l.m _ _ _ (H.out.up HB0.out).m).mono ?_; rw [HLG.out]; rintro e w1 ⟨rfl, hB1⟩; have HL1 := hide (HL0.out.to hB1); have HB1 := hide (Below.to HB0.out hB1 (Nat.le_refl _)); clear hB1 c0 c1 c2 c3 c4 c5 hlb; have c0 := cellOf HL1.out 0; have c1 := cellOf HL1.out 1; have c2 := cellOf HL1.out 2; have c3 := cellOf HL1.out 3; have c4 := cellOf HL1.out 4; have c5 := cellOf HL1.out 5; have hlb := box_lt HL1.out)
        go_ret
        exact ⟨ret_bool HR.out.symm, HB1.out⟩
end Go.Proofs.YtehadoecnmfeoaaGreat

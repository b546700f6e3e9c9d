/- Part 40 of this claim's texts: walks and plain laws. -/
import Derived.Test.YtehadoecnmfeoaaGreatRows
import Derived.Test.YtehadoecnmfeoaaGreatGBU33
import Derived.Test.YtehadoecnmfeoaaGreatGBU35
import Derived.Test.YtehadoecnmfeoaaGreatGBU37
import Derived.Test.YtehadoecnmfeoaaGreatGBU39
import Derived.Deep.DeepMust
import Derived.Deep.RegionHeld3
import Derived.Deep.DrawnRows
import Derived.Test.YtehadoecnmfeoaaGreatGBU3
/- Cuts against the wires, their lengths and the copper: walk of BuildCut. -/
namespace Go.Proofs.YtehadoecnmfeoaaGreat
open Go.Joins Go.ChangeShapes Go.WideShapes Go.ChangeAt Go.RowKit Go.Deep
set_option linter.unusedVariables false
set_option linter.unusedSimpArgs false
theorem Cts.at8 {w : World} {B : Nat} {A : Option Addr} {m q : Nat} {L : List Ct} (h : Cts w B (.slice A m q) L) {k : Nat} (hk : k < L.length) : ∃ b off a, Hid (L.getD k Ct.o = a) ∧ A = some ⟨b, off, none⟩ ∧ b < B ∧ L.length ≤ q ∧
    w.cell? ⟨b, off + k * 3, none⟩ = some (.int .i64 a.s) ∧ w.cell? ⟨b, off + k * 3 + 1, none⟩ = some (.int .i64 a.n) ∧ w.cell? ⟨b, off + k * 3 + 1 + 1, none⟩ = some (.int .i64 a.c) := h.at hk
theorem Cts.upC {w w' : World} {v : Value} {L : List Ct} (h : Cts w w.heap.size v L) (hb : Below w.heap.size w w') : Cts w' w'.heap.size v L := Sl.up h hb
theorem Cts.formC {w : World} {B : Nat} {v : Value} {L : List Ct} (h : Cts w B v L) : ∃ A q, v = .slice A L.length q := Sl.form h
set_option maxRecDepth 100000 in
set_option maxHeartbeats 8000000 in
theorem buildCut_walk (x : List Bool) (Ax : Option Addr) (qx : Nat) (A0 A1 A2 A3 A4 A5 : Option Addr) (q0 q1 q2 q3 q4 q5 : Nat) (l : Lo) (w : World) (hs : SizedL l) (h : LoA w w.heap.size A0 A1 A2 A3 A4 A5 q0 q1 q2 q3 q4 q5 l) (hx : Bols w w.heap.size (.slice Ax x.length qx) x) :
    Calls Tryz.prog 10 #[.agg #[.slice A0 l.m.opts.length q0, .slice A1 l.m.rules.length q1, .slice A2 l.ss.length q2, .slice A3 l.us.length q3, .slice A4 l.ps.length q4, .slice A5 l.ws.length q5], .slice Ax x.length qx] w fun e w' => e = .returned (.bool true) ∧ Below w.heap.size w w' := by
  have H := hide h
  have HS := hide hs
  have HX := hide hx
  clear h hs hx
  obtain ⟨lg, hlg⟩ : ∃ z, lrgB l [] = z := ⟨_, rfl⟩
  have hlarge : ∀ (W : World), LoA W W.heap.size A0 A1 A2 A3 A4 A5 q0 q1 q2 q3 q4 q5 l → Calls Tryz.prog 14 #[.agg #[.slice A0 l.m.opts.length q0, .slice A1 l.m.rules.length q1, .slice A2 l.ss.length q2, .slice A3 l.us.length q3, .slice A4 l.ps.length q4, .slice A5 l.ws.length q5], .slice none 0 0] W fun e w' => e = .returned (.bool lg) ∧ Below W.heap.size W w' := fun W hW => by
    have h1 := large12_any [] none 0 A0 A1 A2 A3 A4 A5 q0 q1 q2 q3 q4 q5 l W hW
    rw [hlg] at h1
    exact h1
  have HLA := hide hlarge
  clear hlarge hlg
  cases lg with
  | true =>
    go_enter Tryz.func10, Tryz.ntmps10
    go_upto_region 1 with (fail)
    generalize hw0 : World.alloc _ _ = w0
    obtain ⟨hb0, hB0, hs0⟩ := alloc1 hw0
    have HB0 := hide hB0
    have c0 := cellOf hb0 0; have c1 := cellOf hb0 1; have c2 := cellOf hb0 2; have c3 := cellOf hb0 3; have c4 := cellOf hb0 4; have c5 := cellOf hb0 5
    have hlb := box_lt hb0
    clear hw0 hb0 hB0 hs0
    go_wp2_with (first
      | (go_at_call 14; refine (HLA.out _ (H.out.up HB0.out)).mono ?_; rintro e w1 ⟨rfl, hB1⟩; have HB1 := hide (Below.to HB0.out hB1 (Nat.le_refl _)); clear hB1 c0 c1 c2 c3 c4 c5 hlb)
      | (go_at_call 15; refine (works_build _).mono ?_; rintro e w2 ⟨rfl, hB2⟩))
    go_ret
    exact ⟨rfl, Below.to HB1.out hB2 (Nat.le_refl _)⟩
  | false =>
  obtain ⟨er, her⟩ : ∃ z, copE l x = z := ⟨_, rfl⟩
  obtain ⟨D, hD⟩ : ∃ z, cutL l x = z := ⟨_, rfl⟩
  have HER := hide her
  have HD := hide hD
  by_cases h0 : er = 0
  case neg =>
    have hz1 : (er != 0) = true := by simpa using h0
    clear her hD h0
    go_enter Tryz.func10, Tryz.ntmps10
    go_upto_region 1 with (fail)
    generalize hw0 : World.alloc _ _ = w0
    obtain ⟨hb0, hB0, hs0⟩ := alloc1 hw0
    have HB0 := hide hB0
    have HL0 : Hid (LoBox w0 w.heap.size A0 A1 A2 A3 A4 A5 q0 q1 q2 q3 q4 q5 l) := hb0
    have c0 := cellOf hb0 0; have c1 := cellOf hb0 1; have c2 := cellOf hb0 2; have c3 := cellOf hb0 3; have c4 := cellOf hb0 4; have c5 := cellOf hb0 5
    have hlb := box_lt hb0
    clear hw0 hb0 hB0 hs0
    go_wp2_with (first
      | (go_at_call 14; refine (HLA.out _ (H.out.up HB0.out)).mono ?_; rintro e w1 ⟨rfl, hB1⟩; have HL1 := hide (HL0.out.to hB1); have HB1 := hide (Below.to HB0.out hB1 (Nat.le_refl _)); clear hB1 c0 c1 c2 c3 c4 c5 hlb; have d0 := cellOf HL1.out 0; have d1 := cellOf HL1.out 1; have d2 := cellOf HL1.out 2; have d3 := cellOf HL1.out 3; have d4 := cellOf HL1.out 4; have d5 := cellOf HL1.out 5; have hld := box_lt HL1.out)
      | (go_at_call 34; refine (Cuts_any x Ax qx A0 A1 A2 A3 A4 A5 q0 q1 q2 q3 q4 q5 l w1 HS.out (H.out.up HB1.out) (Sl.up HX.out HB1.out)).mono ?_; rw [HER.out, HD.out]; rintro e w2 ⟨v2, rfl, hv2, hB2⟩; obtain ⟨Au, qu, e2⟩ := hv2.formC; subst e2; have HB2 := hide (Below.to HB1.out hB2 (Nat.le_refl _)); clear hv2 hB2 d0 d1 d2 d3 d4 d5 hld)
      | (go_at_call 15; refine (works_build _).mono ?_; rintro e w3 ⟨rfl, hB3⟩))
    go_ret
    exact ⟨rfl, Below.to HB2.out hB3 (Nat.le_refl _)⟩
  case pos =>
  subst h0
  obtain ⟨ok, hxl⟩ := copE_ok her
  have hCD := cutL_D her
  have hcnt := cut_count her
  have hcop := cut_copper her
  rw [hD] at hCD hcnt hcop
  obtain ⟨cp, hcp⟩ : ∃ z, copN l x = z := ⟨_, rfl⟩
  rw [hcp] at hcop
  have HCP := hide hcp
  have HCD := hide hCD
  have HCN := hide hcnt
  have HCO := hide hcop
  have OK := hide ok
  have HXL := hide hxl
  have HE0 := hide (copE_zero her)
  have hD60 := hCD.len
  have h60 := ok.w60
  have n0 : ((0 : Int) != 0) = false := by decide
  clear her hD ok hxl hCD hcnt hcop hcp
  go_enter Tryz.func10, Tryz.ntmps10
  go_upto_region 1 with (fail)
  generalize hw0 : World.alloc _ _ = w0
  obtain ⟨hb0, hB0, hs0⟩ := alloc1 hw0
  have HB0 := hide hB0
  have HL0 : Hid (LoBox w0 w.heap.size A0 A1 A2 A3 A4 A5 q0 q1 q2 q3 q4 q5 l) := hb0
  have c0 := cellOf hb0 0; have c1 := cellOf hb0 1; have c2 := cellOf hb0 2; have c3 := cellOf hb0 3; have c4 := cellOf hb0 4; have c5 := cellOf hb0 5
  have hlb := box_lt hb0
  clear hw0 hb0 hB0 hs0
  go_upto_region 4 with (first
    | (go_at_call 14; refine (HLA.out _ (H.out.up HB0.out)).mono ?_; rintro e w1 ⟨rfl, hB1⟩; have HL1 := hide (HL0.out.to hB1); have HB1 := hide (Below.to HB0.out hB1 (Nat.le_refl _)); clear hB1 c0 c1 c2 c3 c4 c5 hlb; have d0 := cellOf HL1.out 0; have d1 := cellOf HL1.out 1; have d2 := cellOf HL1.out 2; have d3 := cellOf HL1.out 3; have d4 := cellOf HL1.out 4; have d5 := cellOf HL1.out 5; have hld := box_lt HL1.out)
    | (go_at_call 34; refine (Cuts_any x Ax qx A0 A1 A2 A3 A4 A5 q0 q1 q2 q3 q4 q5 l w1 HS.out (H.out.up HB1.out) (Sl.up HX.out HB1.out)).mono ?_; rw [HER.out, HD.out]; rintro e w2 ⟨v2, rfl, hv2, hB2⟩; obtain ⟨Au, qu, e2⟩ := hv2.formC; subst e2; have HV2 : Hid (Cts w2 w2.heap.size (.slice Au D.length qu) D) := hv2; have HL2 := hide (HL1.out.to hB2); have HB2 := hide (Below.to HB1.out hB2 (Nat.le_refl _)); clear hv2 hB2 d0 d1 d2 d3 d4 d5 hld; have c0 := cellOf HL2.out 0; have c1 := cellOf HL2.out 1; have c2 := cellOf HL2.out 2; have c3 := cellOf HL2.out 3; have c4 := cellOf HL2.out 4; have c5 := cellOf HL2.out 5; have hlb := box_lt HL2.out))
  go_upto_region 9 with (go_at_call 36; refine (Copper_any x Ax qx A0 A1 A2 A3 A4 A5 q0 q1 q2 q3 q4 q5 l w2 HS.out (H.out.up HB2.out) (Sl.up HX.out HB2.out)).mono ?_; rw [HER.out, HCP.out]; rintro e w3 ⟨rfl, hB3⟩; have HV3 : Hid (Cts w3 w3.heap.size (.slice Au D.length qu) D) := HV2.out.upC hB3; have HL3 := hide (HL2.out.to hB3); have HB3 := hide (Below.to HB2.out hB3 (Nat.le_refl _)); clear hB3 c0 c1 c2 c3 c4 c5 hlb)
  obtain ⟨W3, hW3⟩ : ∃ wo : World, wo = w3 := ⟨_, rfl⟩
  subst hW3
  go_wp2_with fail
  go_loopw [8, 9, 10, 11] (fun wv sv iv _ wr => ∃ (k : Nat) (z1 z2 : Int), wv = .int .i64 z1 ∧ sv = .int .i64 z2 ∧ iv = .int .i64 k ∧ k ≤ D.length ∧ Hid (sumN (cutQ D) k = z1) ∧ Hid (sumN (cutV D) k = z2) ∧ Hid (Below W3.heap.size W3 wr)) (fun _ _ iv _ _ => D.length - (intOf iv).toNat)
  case atStart => exact ⟨0, 0, 0, rfl, rfl, rfl, Nat.zero_le _, rfl, rfl, Below.refl _ _⟩
  case round =>
    obtain ⟨k, z1, z2, rfl, rfl, rfl, hk, HZ1, HZ2, HW⟩ := hrel
    have HBr := hide (Below.to HB3.out HW.out (Nat.le_refl _))
    by_cases hkl : k < D.length
    case neg =>
      have hkl1 : ¬ (k : Int) < (D.length : Int) := by omega
      have hkD : k = D.length := by omega
      obtain ⟨T, hT⟩ : ∃ z, sumN (cutW l x) l.ws.length = z := ⟨_, rfl⟩
      have hz1 : z1 = T := by rw [← HZ1.out, hkD, HCN.out, hT]
      have hz2 : z2 = cp := by rw [← HZ2.out, hkD, HCO.out]
      subst hz1 hz2
      have HT := hide hT
      have HLr := hide (HL3.out.to HW.out)
      have hT60 : 0 ≤ z1 ∧ z1 ≤ l.ws.length := by rw [← hT]; exact cutB_bd l x l.ws.length
      clear hkl hkD HZ1 HZ2 hT
      obtain ⟨W4, hW4⟩ : ∃ wo : World, wo = wr := ⟨_, rfl⟩
      subst hW4
      go_upto_region 18 with (fail)
      go_wp2_with fail
      go_loopw [8, 12, 13, 14, 15, 16] (fun wv iv _ _ _ _ wr => ∃ (i : Nat) (z : Int), wv = .int .i64 z ∧ iv = .int .i64 i ∧ i ≤ l.ws.length ∧ Hid (sumN (cutW l x) i + z = z1) ∧ Hid (Below W4.heap.size W4 wr)) (fun _ iv _ _ _ _ _ => l.ws.length - (intOf iv).toNat)
      case atStart => exact ⟨0, z1, rfl, rfl, Nat.zero_le _, by show _ = _; simp [sumN], Below.refl _ _⟩
      case round =>
        obtain ⟨i, z, rfl, rfl, hi, HZ, HW2⟩ := hrel
        have HB2r := hide (Below.to HBr.out HW2.out (Nat.le_refl _))
        have HL2r := hide (HLr.out.to HW2.out)
        by_cases hil : i < l.ws.length
        case neg =>
          have hil1 : ¬ (i : Int) < (l.ws.length : Int) := by omega
          have hz0 : z = 0 := by
            have h1 := HZ.out
            rw [show i = l.ws.length by omega, HT.out] at h1
            omega
          subst hz0
          clear hil
          have c0 := cellOf HL2r.out 0; have c1 := cellOf HL2r.out 1; have c2 := cellOf HL2r.out 2; have c3 := cellOf HL2r.out 3; have c4 := cellOf HL2r.out 4; have c5 := cellOf HL2r.out 5
          have hlb := box_lt HL2r.out
          go_wp2_with (go_at_call 15; refine (works_build _).mono ?_; rintro e w9 ⟨rfl, hB9⟩)
          go_ret
          exact ⟨rfl, Below.to HB2r.out hB9 (Nat.le_refl _)⟩
        case pos =>
          have hil1 : (i : Int) < (l.ws.length : Int) := by omega
          have ii0 : (0 : Int) ≤ (i : Int) := by omega
          obtain ⟨is, his⟩ : ∃ b, inB l x i = b := ⟨_, rfl⟩
          have hev := inB_ev OK.out HXL.out hil
          rw [his] at hev
          have hfv := (OK.out.wi hil).2
          have hfl := (HS.out.wn (l.ws.getD i Wi.o) (getD_mem7 hil)).2
          have hrou : rouE l (i : Int) = 0 := by
            unfold rouE havE
            rw [if_neg (by rw [HE0.out]; simp), show btw (i : Int) 0 ((l.ws.length : Int) - 1) = true from btw_iff.2 ⟨by omega, by omega⟩]
            rfl
          have hlen : lenN l (i : Int) = lenW l i := by unfold lenN; rw [if_pos hrou]; rfl
          have hn0 : 0 ≤ lenW l i := (OK.out.dist (x := endF l i) (z := endT l i)).1
          have hst : sumN (cutW l x) (i + 1) = sumN (cutW l x) i + if (is && decide (0 < lenW l i)) = true then 1 else 0 := by
            show sumN _ i + (if cutB l x i = true then (1 : Int) else 0) = _
            unfold cutB
            rw [his]
          have hnow := cutB_bd l x i
          obtain ⟨n, hn⟩ : ∃ z, lenW l i = z := ⟨_, rfl⟩
          rw [hn] at hlen hn0 hst
          obtain ⟨bw, ow, y, Af, qf, HY, hA5, hbw, hq5, HYF, _, _, _, _, _, _, ef0⟩ := H.out.wi hil
          subst hA5
          unfold fmW at hev
          rw [HY.out] at hev hfv hfl
          have hok := hol_ok (m := l.m) (f := y.form) (vs := x) (errF_all OK.out.m fun g hg => by rw [List.mem_singleton] at hg; rw [hg]; exact hfv) HXL.out
          rw [← hev] at hok
          have HOK := hide hok
          have HYL := hide hfl
          have HLN := hide hlen
          have HRO := hide hrou
          have iq5 : (l.ws.length : Int) ≤ (q5 : Int) := by omega
          have ef : wr.cell? ⟨bw, ow + i * 7 + 6, none⟩ = some (.slice Af y.form.length qf) := (HB2r.out.cell (p := ⟨bw, ow + i * 7 + 6, none⟩) hbw).trans ef0
          have lbw : bw < wr.heap.size := Nat.lt_of_lt_of_le hbw HB2r.out.size
          have H1 := hide (H.out.up HB2r.out)
          have HYF1 := hide (HYF.out.up HB2r.out)
          have HX1 := hide (Sl.up HX.out HB2r.out)
          have c0 := cellOf HL2r.out 0; have c1 := cellOf HL2r.out 1; have c2 := cellOf HL2r.out 2; have c3 := cellOf HL2r.out 3; have c4 := cellOf HL2r.out 4; have c5 := cellOf HL2r.out 5
          have hlb := box_lt HL2r.out
          clear hev hfv hfl hrou hlen hok hq5 ef0 his hn
          go_upto_region 21 with (fail)
          refine wp_region_held_drew (S := (fun w' => Below wr.heap.size wr w')) (by kernel_rfl) ?_ (fun hHeld => ?_)
          · try dsimp only
            exact (by repeat (first | exact Below.refl _ _ | assumption | refine Below.drew ?_ | refine Below.drewN ?_ _ | refine Below.allocT ?_ (Nat.le_refl _) _ | refine Below.setCell ?_ (by simp <;> omega) _ | refine Below.to ?_ (by assumption) (Nat.le_refl _)))
          refine zT 0 rfl ?_
          try simp only [zX]
          refine zT 1 rfl ?_
          try simp only [zX]
          refine zT 2 rfl ?_
          try simp only [zX]
          refine zT 3 rfl ?_
          try simp only [zX]
          refine zT 4 rfl ?_
          try simp only [zX]
          refine zT 5 rfl ?_
          try simp only [zX]
          refine zT 6 rfl ?_
          try simp only [zX]
          refine zT 7 rfl ?_
          try simp only [zX]
          refine zT 8 rfl ?_
          try simp only [zX]
          refine wpAnyH_ready (rs := [9]) (by kernel_rfl) (by simp) ?_
          refine AllReadyH.cons rfl (fun K hK => ?_) AllReadyH.nil
          go_simp
          ((go_at_call 37; refine (Holds_any l.m y.form x _ _ _ _ _ HS.out.m HYL.out (H1.out.up (by repeat (first | exact Below.refl _ _ | assumption | refine Below.drew ?_ | refine Below.drewN ?_ _ | refine Below.allocT ?_ (Nat.le_refl _) _ | refine Below.setCell ?_ (by simp <;> omega) _ | refine Below.to ?_ (by assumption) (Nat.le_refl _)))).m (HYF1.out.up (by repeat (first | exact Below.refl _ _ | assumption | refine Below.drew ?_ | refine Below.drewN ?_ _ | refine Below.allocT ?_ (Nat.le_refl _) _ | refine Below.setCell ?_ (by simp <;> omega) _ | refine Below.to ?_ (by assumption) (Nat.le_refl _)))) (Sl.up HX1.out (by repeat (first | exact Below.refl _ _ | assumption | refine Below.drew ?_ | refine Below.drewN ?_ _ | refine Below.allocT ?_ (Nat.le_refl _) _ | refine Below.setCell ?_ (by simp <;> omega) _ | refine Below.to ?_ (by assumption) (Nat.le_refl _))))).mono ?_; rw [HOK.out.1, HOK.out.2]; rintro e w5 ⟨rfl, hB5⟩))
          (try dsimp only)
          refine hK.out _ _ ?_ (fun hNext => ?_)
          · try dsimp only
            exact (by repeat (first | exact Below.refl _ _ | assumption | refine Below.drew ?_ | refine Below.drewN ?_ _ | refine Below.allocT ?_ (Nat.le_refl _) _ | refine Below.setCell ?_ (by simp <;> omega) _ | refine Below.to ?_ (by assumption) (Nat.le_refl _)))
          clear hK K hHeld
          have hHeld := hNext
          clear hNext
          (try dsimp only at hHeld)
          try simp only [zX]
          refine zT 10 rfl ?_
          try simp only [zX]
          refine zT 11 rfl ?_
          try simp only [zX]
          refine zT 12 rfl ?_
          try simp only [zX]
          refine zT 13 rfl ?_
          try simp only [zX]
          refine zT 14 rfl ?_
          try simp only [zX]
          refine wpAnyH_done (by kernel_rfl) ?_ _
          have HB5 := hide (Below.to HB2r.out hHeld (Nat.le_refl _))
          have HW5 := hide (Below.to HW2.out hHeld (Nat.le_refl _))
          have HL5 := hide (HL2r.out.to hHeld)
          clear hHeld c0 c1 c2 c3 c4 c5 hlb ef lbw H1 HYF1 HX1
          have c0 := cellOf HL5.out 0; have c1 := cellOf HL5.out 1; have c2 := cellOf HL5.out 2; have c3 := cellOf HL5.out 3; have c4 := cellOf HL5.out 4; have c5 := cellOf HL5.out 5
          have hlb := box_lt HL5.out
          by_cases hc : (is && decide (0 < n)) = true
          · obtain ⟨hi1, hn1⟩ := Bool.and_eq_true_iff.1 hc
            subst hi1
            rw [if_pos hc] at hst
            have hgt : decide (n > 0) = true := hn1
            have hzb : IntKind.i64.wrap (z - 1) = z - 1 := by
              have h1 := HZ.out
              have h2 := hnow
              rw [IntWalk.i64_in _ (by omega)]
            have HZN : Hid (sumN (cutW l x) (i + 1) + (z - 1) = z1) := by
              have h1 := HZ.out
              show _ = _
              rw [hst]
              omega
            have hn2 : 0 < n := of_decide_eq_true hn1
            clear hst hnow hc
            go_wp2_with (go_at_call 38; refine (Length_any (i : Int) A0 A1 A2 A3 A4 (some ⟨bw, ow, none⟩) q0 q1 q2 q3 q4 q5 l _ HS.out (H.out.up HB5.out)).mono ?_; rw [HLN.out, HRO.out]; rintro e w6 ⟨rfl, hB6⟩; have HW6 := hide (Below.to HW5.out hB6 (Nat.le_refl _)); clear hB6 c0 c1 c2 c3 c4 c5 hlb)
            go_roundw
            case rel => exact ⟨i + 1, z - 1, by go_num, by go_num, by omega, HZN, HW6⟩
            case measure => simp [intOf]; omega
          · rw [if_neg hc] at hst
            have HZN : Hid (sumN (cutW l x) (i + 1) + z = z1) := by
              have h1 := HZ.out
              show _ = _
              rw [hst]
              omega
            have hor : is = false ∨ decide (0 < n) = false := by
              cases is with
              | false => exact Or.inl rfl
              | true => exact Or.inr (by simpa using hc)
            clear hst hnow
            rcases hor with hor | hor
            · subst hor
              clear hc
              go_wp2_with (go_at_call 38; refine (Length_any (i : Int) A0 A1 A2 A3 A4 (some ⟨bw, ow, none⟩) q0 q1 q2 q3 q4 q5 l _ HS.out (H.out.up HB5.out)).mono ?_; rw [HLN.out, HRO.out]; rintro e w6 ⟨rfl, hB6⟩; have HW6 := hide (Below.to HW5.out hB6 (Nat.le_refl _)); clear hB6 c0 c1 c2 c3 c4 c5 hlb)
              go_roundw
              case rel => exact ⟨i + 1, z, by go_num, by go_num, by omega, HZN, HW6⟩
              case measure => simp [intOf]; omega
            · have hn2 : n = 0 := by
                have h1 := of_decide_eq_false hor
                omega
              subst hn2
              clear hc hor
              cases is with
              | false =>
                  go_wp2_with (go_at_call 38; refine (Length_any (i : Int) A0 A1 A2 A3 A4 (some ⟨bw, ow, none⟩) q0 q1 q2 q3 q4 q5 l _ HS.out (H.out.up HB5.out)).mono ?_; rw [HLN.out, HRO.out]; rintro e w6 ⟨rfl, hB6⟩; have HW6 := hide (Below.to HW5.out hB6 (Nat.le_refl _)); clear hB6 c0 c1 c2 c3 c4 c5 hlb)
                  go_roundw
                  case rel => exact ⟨i + 1, z, by go_num, by go_num, by omega, HZN, HW6⟩
                  case measure => simp [intOf]; omega
              | true =>
                  go_wp2_with (go_at_call 38; refine (Length_any (i : Int) A0 A1 A2 A3 A4 (some ⟨bw, ow, none⟩) q0 q1 q2 q3 q4 q5 l _ HS.out (H.out.up HB5.out)).mono ?_; rw [HLN.out, HRO.out]; rintro e w6 ⟨rfl, hB6⟩; have HW6 := hide (Below.to HW5.out hB6 (Nat.le_refl _)); clear hB6 c0 c1 c2 c3 c4 c5 hlb)
                  go_roundw
                  case rel => exact ⟨i + 1, z, by go_num, by go_num, by omega, HZN, HW6⟩
                  case measure => simp [intOf]; omega
    case pos =>
    have hkl1 : (k : Int) < (D.length : Int) := by omega
    have ik0 : (0 : Int) ≤ (k : Int) := by omega
    obtain ⟨b1, o1, d, HDD, hA, hb1, hq1, ea, eb, ec⟩ := (HV3.out.upC HW.out).at8 hkl
    subst hA
    have hbd := HCD.out.bd k hkl
    have hc1 : sumN (cutQ D) (k + 1) = sumN (cutQ D) k + (D.getD k Ct.o).c := rfl
    have hc2 : sumN (cutV D) (k + 1) = sumN (cutV D) k + (D.getD k Ct.o).c * (D.getD k Ct.o).s * (D.getD k Ct.o).n := rfl
    have hb2 := HCD.out.cnt hk
    have hb3 := HCD.out.cop hk
    rw [HDD.out] at hbd hc1 hc2
    rw [HZ1.out] at hb2 hc1
    rw [HZ2.out] at hb3 hc2
    have hpr := ct_prod hbd
    have HC1 := hide hc1
    have HC2 := hide hc2
    have iqu : (D.length : Int) ≤ (qu : Int) := by omega
    have ww1 : IntKind.i64.wrap (z1 + d.c) = z1 + d.c := by rw [IntWalk.i64_in _ (by omega)]
    have ww2 : IntKind.i64.wrap (d.c * d.s) = d.c * d.s := by
      generalize d.c * d.s = y at hpr ⊢
      rw [IntWalk.i64_in _ (by omega)]
    have ww3 : IntKind.i64.wrap (d.c * d.s * d.n) = d.c * d.s * d.n := by
      generalize d.c * d.s * d.n = y at hpr ⊢
      rw [IntWalk.i64_in _ (by omega)]
    have ww4 : IntKind.i64.wrap (z2 + d.c * d.s * d.n) = z2 + d.c * d.s * d.n := by
      generalize d.c * d.s * d.n = y at hpr ⊢
      rw [IntWalk.i64_in _ (by omega)]
    have dc1 : decide (d.c < 1) = false := decide_eq_false (by omega)
    have dn1 : decide (d.n < 1) = false := decide_eq_false (by omega)
    have hasc : 0 < k → (D.getD (k - 1) Ct.o).s < d.s ∨ ((D.getD (k - 1) Ct.o).s = d.s ∧ (D.getD (k - 1) Ct.o).n < d.n) := fun h0 => by
      have h1 := HCD.out.asc (k - 1) (by omega)
      rw [show k - 1 + 1 = k by omega, HDD.out] at h1
      exact h1
    have HASC := hide hasc
    clear hq1 hc1 hc2 hb2 hb3 hpr hbd hasc
    go_upto_region 14 with (fail)
    generalize hw4 : World.alloc _ _ = w4
    obtain ⟨hbx, hB4, hs4⟩ := alloc1 hw4
    obtain ⟨xb, hxb⟩ : ∃ z, wr.heap.size = z := ⟨_, rfl⟩
    rw [hxb] at hbx ⊢
    have HX4 := hide hbx
    have HW4 := hide (Below.to HW.out hB4 (Nat.le_refl _))
    clear hw4 hbx hxb hB4 hs4 ea eb ec
    have x0 := cellOf HX4.out 0
    have x1 := cellOf HX4.out 1
    have x2 := cellOf HX4.out 2
    have lx := box_lt HX4.out
    cases k with
    | zero =>
      have hgt : decide (((0 : Nat) : Int) > 0) = false := by decide
      refine wp_region_held_drew (S := (fun w' => Below w4.heap.size w4 w')) (by kernel_rfl) ?_ (fun hHeld => ?_)
      · try dsimp only
        exact (by repeat (first | exact Below.refl _ _ | assumption | refine Below.drew ?_ | refine Below.drewN ?_ _ | refine Below.allocT ?_ (Nat.le_refl _) _ | refine Below.setCell ?_ (by simp <;> omega) _ | refine Below.to ?_ (by assumption) (Nat.le_refl _)))
      refine zT 0 rfl ?_
      try simp only [zX]
      refine zT 1 rfl ?_
      try simp only [zX]
      refine zT 2 rfl ?_
      try simp only [zX]
      refine zT 3 rfl ?_
      try simp only [zX]
      refine zT 4 rfl ?_
      try simp only [zX]
      refine zT 5 rfl ?_
      try simp only [zX]
      refine zT 6 rfl ?_
      try simp only [zX]
      refine zT 7 rfl ?_
      try simp only [zX]
      refine zT 8 rfl ?_
      try simp only [zX]
      refine zT 9 rfl ?_
      try simp only [zX]
      refine zT 10 rfl ?_
      try simp only [zX]
      refine zT 11 rfl ?_
      try simp only [zX]
      refine wpAnyH_take (i := 12) (v := undef) rfl (by kernel_rfl) (by kernel_rfl) (by kernel_rfl) (fun _ _ _ h => h) (Or.inr ⟨?w2_12, rfl⟩) (by assumption) ?r2_12
      case' w2_12 => first | rfl | (simp [Region.wanted, yielded, *]; done)
      try simp only [zX]
      refine wpAnyH_take (i := 13) (v := undef) rfl (by kernel_rfl) (by kernel_rfl) (by kernel_rfl) (fun _ _ _ h => h) (Or.inr ⟨?w2_13, rfl⟩) (by assumption) ?r2_13
      case' w2_13 => first | rfl | (simp [Region.wanted, yielded, *]; done)
      try simp only [zX]
      refine wpAnyH_take (i := 14) (v := undef) rfl (by kernel_rfl) (by kernel_rfl) (by kernel_rfl) (fun _ _ _ h => h) (Or.inr ⟨?w2_14, rfl⟩) (by assumption) ?r2_14
      case' w2_14 => first | rfl | (simp [Region.wanted, yielded, *]; done)
      try simp only [zX]
      refine wpAnyH_take (i := 15) (v := undef) rfl (by kernel_rfl) (by kernel_rfl) (by kernel_rfl) (fun _ _ _ h => h) (Or.inr ⟨?w2_15, rfl⟩) (by assumption) ?r2_15
      case' w2_15 => first | rfl | (simp [Region.wanted, yielded, *]; done)
      try simp only [zX]
      refine wpAnyH_take (i := 16) (v := undef) rfl (by kernel_rfl) (by kernel_rfl) (by kernel_rfl) (fun _ _ _ h => h) (Or.inr ⟨?w2_16, rfl⟩) (by assumption) ?r2_16
      case' w2_16 => first | rfl | (simp [Region.wanted, yielded, *]; done)
      try simp only [zX]
      refine wpAnyH_take (i := 17) (v := undef) rfl (by kernel_rfl) (by kernel_rfl) (by kernel_rfl) (fun _ _ _ h => h) (Or.inr ⟨?w2_17, rfl⟩) (by assumption) ?r2_17
      case' w2_17 => first | rfl | (simp [Region.wanted, yielded, *]; done)
      try simp only [zX]
      refine wpAnyH_take (i := 18) (v := undef) rfl (by kernel_rfl) (by kernel_rfl) (by kernel_rfl) (fun _ _ _ h => h) (Or.inr ⟨?w2_18, rfl⟩) (by assumption) ?r2_18
      case' w2_18 => first | rfl | (simp [Region.wanted, yielded, *]; done)
      try simp only [zX]
      refine wpAnyH_take (i := 19) (v := undef) rfl (by kernel_rfl) (by kernel_rfl) (by kernel_rfl) (fun _ _ _ h => h) (Or.inr ⟨?w2_19, rfl⟩) (by assumption) ?r2_19
      case' w2_19 => first | rfl | (simp [Region.wanted, yielded, *]; done)
      try simp only [zX]
      refine wpAnyH_take (i := 20) (v := undef) rfl (by kernel_rfl) (by kernel_rfl) (by kernel_rfl) (fun _ _ _ h => h) (Or.inr ⟨?w2_20, rfl⟩) (by assumption) ?r2_20
      case' w2_20 => first | rfl | (simp [Region.wanted, yielded, *]; done)
      try simp only [zX]
      refine wpAnyH_take (i := 21) (v := undef) rfl (by kernel_rfl) (by kernel_rfl) (by kernel_rfl) (fun _ _ _ h => h) (Or.inr ⟨?w2_21, rfl⟩) (by assumption) ?r2_21
      case' w2_21 => first | rfl | (simp [Region.wanted, yielded, *]; done)
      try simp only [zX]
      refine wpAnyH_take (i := 22) (v := undef) rfl (by kernel_rfl) (by kernel_rfl) (by kernel_rfl) (fun _ _ _ h => h) (Or.inr ⟨?w2_22, rfl⟩) (by assumption) ?r2_22
      case' w2_22 => first | rfl | (simp [Region.wanted, yielded, *]; done)
      try simp only [zX]
      refine wpAnyH_take (i := 23) (v := undef) rfl (by kernel_rfl) (by kernel_rfl) (by kernel_rfl) (fun _ _ _ h => h) (Or.inr ⟨?w2_23, rfl⟩) (by assumption) ?r2_23
      case' w2_23 => first | rfl | (simp [Region.wanted, yielded, *]; done)
      try simp only [zX]
      refine wpAnyH_take (i := 24) (v := undef) rfl (by kernel_rfl) (by kernel_rfl) (by kernel_rfl) (fun _ _ _ h => h) (Or.inr ⟨?w2_24, rfl⟩) (by assumption) ?r2_24
      case' w2_24 => first | rfl | (simp [Region.wanted, yielded, *]; done)
      try simp only [zX]
      refine wpAnyH_take (i := 25) (v := undef) rfl (by kernel_rfl) (by kernel_rfl) (by kernel_rfl) (fun _ _ _ h => h) (Or.inr ⟨?w2_25, rfl⟩) (by assumption) ?r2_25
      case' w2_25 => first | rfl | (simp [Region.wanted, yielded, *]; done)
      try simp only [zX]
      refine wpAnyH_take (i := 26) (v := undef) rfl (by kernel_rfl) (by kernel_rfl) (by kernel_rfl) (fun _ _ _ h => h) (Or.inr ⟨?w2_26, rfl⟩) (by assumption) ?r2_26
      case' w2_26 => first | rfl | (simp [Region.wanted, yielded, *]; done)
      try simp only [zX]
      refine wpAnyH_take (i := 27) (v := undef) rfl (by kernel_rfl) (by kernel_rfl) (by kernel_rfl) (fun _ _ _ h => h) (Or.inr ⟨?w2_27, rfl⟩) (by assumption) ?r2_27
      case' w2_27 => first | rfl | (simp [Region.wanted, yielded, *]; done)
      try simp only [zX]
      refine wpAnyH_take (i := 28) (v := undef) rfl (by kernel_rfl) (by kernel_rfl) (by kernel_rfl) (fun _ _ _ h => h) (Or.inr ⟨?w2_28, rfl⟩) (by assumption) ?r2_28
      case' w2_28 => first | rfl | (simp [Region.wanted, yielded, *]; done)
      try simp only [zX]
      refine wpAnyH_take (i := 29) (v := undef) rfl (by kernel_rfl) (by kernel_rfl) (by kernel_rfl) (fun _ _ _ h => h) (Or.inr ⟨?w2_29, rfl⟩) (by assumption) ?r2_29
      case' w2_29 => first | rfl | (simp [Region.wanted, yielded, *]; done)
      try simp only [zX]
      refine wpAnyH_take (i := 30) (v := undef) rfl (by kernel_rfl) (by kernel_rfl) (by kernel_rfl) (fun _ _ _ h => h) (Or.inr ⟨?w2_30, rfl⟩) (by assumption) ?r2_30
      case' w2_30 => first | rfl | (simp [Region.wanted, yielded, *]; done)
      try simp only [zX]
      refine wpAnyH_take (i := 31) (v := undef) rfl (by kernel_rfl) (by kernel_rfl) (by kernel_rfl) (fun _ _ _ h => h) (Or.inr ⟨?w2_31, rfl⟩) (by assumption) ?r2_31
      case' w2_31 => first | rfl | (simp [Region.wanted, yielded, *]; done)
      try simp only [zX]
      refine wpAnyH_take (i := 32) (v := undef) rfl (by kernel_rfl) (by kernel_rfl) (by kernel_rfl) (fun _ _ _ h => h) (Or.inr ⟨?w2_32, rfl⟩) (by assumption) ?r2_32
      case' w2_32 => first | rfl | (simp [Region.wanted, yielded, *]; done)
      try simp only [zX]
      refine wpAnyH_take (i := 33) (v := undef) rfl (by kernel_rfl) (by kernel_rfl) (by kernel_rfl) (fun _ _ _ h => h) (Or.inr ⟨?w2_33, rfl⟩) (by assumption) ?r2_33
      case' w2_33 => first | rfl | (simp [Region.wanted, yielded, *]; done)
      try simp only [zX]
      refine wpAnyH_take (i := 34) (v := undef) rfl (by kernel_rfl) (by kernel_rfl) (by kernel_rfl) (fun _ _ _ h => h) (Or.inr ⟨?w2_34, rfl⟩) (by assumption) ?r2_34
      case' w2_34 => first | rfl | (simp [Region.wanted, yielded, *]; done)
      try simp only [zX]
      refine wpAnyH_take (i := 35) (v := undef) rfl (by kernel_rfl) (by kernel_rfl) (by kernel_rfl) (fun _ _ _ h => h) (Or.inr ⟨?w2_35, rfl⟩) (by assumption) ?r2_35
      case' w2_35 => first | rfl | (simp [Region.wanted, yielded, *]; done)
      try simp only [zX]
      refine wpAnyH_take (i := 36) (v := undef) rfl (by kernel_rfl) (by kernel_rfl) (by kernel_rfl) (fun _ _ _ h => h) (Or.inr ⟨?w2_36, rfl⟩) (by assumption) ?r2_36
      case' w2_36 => first | rfl | (simp [Region.wanted, yielded, *]; done)
      try simp only [zX]
      refine wpAnyH_take (i := 37) (v := undef) rfl (by kernel_rfl) (by kernel_rfl) (by kernel_rfl) (fun _ _ _ h => h) (Or.inr ⟨?w2_37, rfl⟩) (by assumption) ?r2_37
      case' w2_37 => first | rfl | (simp [Region.wanted, yielded, *]; done)
      try simp only [zX]
      refine wpAnyH_take (i := 38) (v := undef) rfl (by kernel_rfl) (by kernel_rfl) (by kernel_rfl) (fun _ _ _ h => h) (Or.inr ⟨?w2_38, rfl⟩) (by assumption) ?r2_38
      case' w2_38 => first | rfl | (simp [Region.wanted, yielded, *]; done)
      try simp only [zX]
      refine wpAnyH_take (i := 39) (v := undef) rfl (by kernel_rfl) (by kernel_rfl) (by kernel_rfl) (fun _ _ _ h => h) (Or.inr ⟨?w2_39, rfl⟩) (by assumption) ?r2_39
      case' w2_39 => first | rfl | (simp [Region.wanted, yielded, *]; done)
      try simp only [zX]
      refine wpAnyH_take (i := 40) (v := undef) rfl (by kernel_rfl) (by kernel_rfl) (by kernel_rfl) (fun _ _ _ h => h) (Or.inr ⟨?w2_40, rfl⟩) (by assumption) ?r2_40
      case' w2_40 => first | rfl | (simp [Region.wanted, yielded, *]; done)
      try simp only [zX]
      refine wpAnyH_take (i := 41) (v := undef) rfl (by kernel_rfl) (by kernel_rfl) (by kernel_rfl) (fun _ _ _ h => h) (Or.inr ⟨?w2_41, rfl⟩) (by assumption) ?r2_41
      case' w2_41 => first | rfl | (simp [Region.wanted, yielded, *]; done)
      try simp only [zX]
      refine wpAnyH_take (i := 42) (v := undef) rfl (by kernel_rfl) (by kernel_rfl) (by kernel_rfl) (fun _ _ _ h => h) (Or.inr ⟨?w2_42, rfl⟩) (by assumption) ?r2_42
      case' w2_42 => first | rfl | (simp [Region.wanted, yielded, *]; done)
      try simp only [zX]
      refine zT 43 rfl ?_
      try simp only [zX]
      refine zT 44 rfl ?_
      try simp only [zX]
      refine wpAnyH_done (by kernel_rfl) ?_ _
      generalize hw7 : World.drew _ = w7 at hHeld ⊢
      have HW7 := hide (Below.to HW4.out hHeld (Nat.le_refl _))
      have HX7 := hide (box_to HX4.out hHeld)
      clear hw7 hHeld x0 x1 x2 lx
      have x0 := cellOf HX7.out 0
      have x1 := cellOf HX7.out 1
      have x2 := cellOf HX7.out 2
      have lx := box_lt HX7.out
      go_wp2_with fail
      go_roundw
      case rel => exact ⟨0 + 1, z1 + d.c, z2 + d.c * d.s * d.n, by go_num, by go_num, by go_num, by omega, HC1.out, HC2.out, HW7.out⟩
      case measure => simp [intOf]; omega
    | succ p =>
      obtain ⟨b2, o2, d2, HD2, hA2, hb2, hq2, f0, f1, f2⟩ := (HV3.out.upC HW4.out).at8 (k := p) (by omega)
      injection hA2 with hA2
      injection hA2 with hA2 hA3 _
      subst hA2 hA3
      have hasc := HASC.out (by omega)
      rw [Nat.add_sub_cancel, HD2.out] at hasc
      have hgt : decide (((p + 1 : Nat) : Int) > 0) = true := decide_eq_true (by omega)
      have wm : IntKind.i64.wrap (((p + 1 : Nat) : Int) - 1) = (p : Int) := by rw [IntWalk.i64_in _ (by omega)]; omega
      have wm2 : IntKind.i64.wrap ((p : Int) + 1 - 1) = (p : Int) := by rw [IntWalk.i64_in _ (by omega)]; omega
      have wm3 : IntKind.i64.wrap (p : Int) = (p : Int) := by rw [IntWalk.i64_in _ (by omega)]
      have ip0 : (0 : Int) ≤ (p : Int) := by omega
      have ip1 : (p : Int) < (D.length : Int) := by omega
      have ip2 : p < D.length := by omega
      have hg2 : (0 : Int) < (p : Int) + 1 := by omega
      have dls : decide (d.s < d2.s) = false := decide_eq_false (by omega)
      clear hq2
      by_cases heq : d.s = d2.s
      · have deq : (d.s == d2.s) = true := by simpa using heq
        have dle : decide (d.n ≤ d2.n) = false := decide_eq_false (by omega)
        clear hasc heq
        refine wp_region_held_drew (S := (fun w' => Below w4.heap.size w4 w')) (by kernel_rfl) ?_ (fun hHeld => ?_)
        · try dsimp only
          exact (by repeat (first | exact Below.refl _ _ | assumption | refine Below.drew ?_ | refine Below.drewN ?_ _ | refine Below.allocT ?_ (Nat.le_refl _) _ | refine Below.setCell ?_ (by simp <;> omega) _ | refine Below.to ?_ (by assumption) (Nat.le_refl _)))
        refine zT 0 rfl ?_
        try simp only [zX]
        refine zT 1 rfl ?_
        try simp only [zX]
        refine zT 2 rfl ?_
        try simp only [zX]
        refine zT 3 rfl ?_
        try simp only [zX]
        refine zT 4 rfl ?_
        try simp only [zX]
        refine zT 5 rfl ?_
        try simp only [zX]
        refine zT 6 rfl ?_
        try simp only [zX]
        refine zT 7 rfl ?_
        try simp only [zX]
        refine zT 8 rfl ?_
        try simp only [zX]
        refine zT 9 rfl ?_
        try simp only [zX]
        refine zT 10 rfl ?_
        try simp only [zX]
        refine zT 11 rfl ?_
        try simp only [zX]
        refine zT 12 rfl ?_
        try simp only [zX]
        refine zT 13 rfl ?_
        try simp only [zX]
        refine zT 14 rfl ?_
        try simp only [zX]
        refine zT 15 rfl ?_
        try simp only [zX]
        refine zT 16 rfl ?_
        try simp only [zX]
        refine zT 17 rfl ?_
        try simp only [zX]
        refine zT 18 rfl ?_
        try simp only [zX]
        refine zT 19 rfl ?_
        try simp only [zX]
        refine zT 20 rfl ?_
        try simp only [zX]
        refine zT 21 rfl ?_
        try simp only [zX]
        refine zT 22 rfl ?_
        try simp only [zX]
        refine zT 23 rfl ?_
        try simp only [zX]
        refine zT 24 rfl ?_
        try simp only [zX]
        refine zT 25 rfl ?_
        try simp only [zX]
        refine zT 26 rfl ?_
        try simp only [zX]
        refine zT 27 rfl ?_
        try simp only [zX]
        refine zT 28 rfl ?_
        try simp only [zX]
        refine zT 29 rfl ?_
        try simp only [zX]
        refine zT 30 rfl ?_
        try simp only [zX]
        refine zT 31 rfl ?_
        try simp only [zX]
        refine zT 32 rfl ?_
        try simp only [zX]
        refine zT 33 rfl ?_
        try simp only [zX]
        refine zT 34 rfl ?_
        try simp only [zX]
        refine zT 35 rfl ?_
        try simp only [zX]
        refine zT 36 rfl ?_
        try simp only [zX]
        refine zT 37 rfl ?_
        try simp only [zX]
        refine zT 38 rfl ?_
        try simp only [zX]
        refine zT 39 rfl ?_
        try simp only [zX]
        refine zT 40 rfl ?_
        try simp only [zX]
        refine zT 41 rfl ?_
        try simp only [zX]
        refine zT 42 rfl ?_
        try simp only [zX]
        refine zT 43 rfl ?_
        try simp only [zX]
        refine zT 44 rfl ?_
        try simp only [zX]
        refine wpAnyH_done (by kernel_rfl) ?_ _
        generalize hw7 : World.drew _ = w7 at hHeld ⊢
        have HW7 := hide (Below.to HW4.out hHeld (Nat.le_refl _))
        have HX7 := hide (box_to HX4.out hHeld)
        clear hw7 hHeld x0 x1 x2 lx f0 f1 f2
        have x0 := cellOf HX7.out 0
        have x1 := cellOf HX7.out 1
        have x2 := cellOf HX7.out 2
        have lx := box_lt HX7.out
        go_wp2_with fail
        go_roundw
        case rel => exact ⟨p + 1 + 1, z1 + d.c, z2 + d.c * d.s * d.n, by go_num, by go_num, by go_num, by omega, HC1.out, HC2.out, HW7.out⟩
        case measure => simp [intOf]; omega
      · have deq : (d.s == d2.s) = false := by simpa using heq
        clear hasc heq
        refine wp_region_held_drew (S := (fun w' => Below w4.heap.size w4 w')) (by kernel_rfl) ?_ (fun hHeld => ?_)
        · try dsimp only
          exact (by repeat (first | exact Below.refl _ _ | assumption | refine Below.drew ?_ | refine Below.drewN ?_ _ | refine Below.allocT ?_ (Nat.le_refl _) _ | refine Below.setCell ?_ (by simp <;> omega) _ | refine Below.to ?_ (by assumption) (Nat.le_refl _)))
        refine zT 0 rfl ?_
        try simp only [zX]
        refine zT 1 rfl ?_
        try simp only [zX]
        refine zT 2 rfl ?_
        try simp only [zX]
        refine zT 3 rfl ?_
        try simp only [zX]
        refine zT 4 rfl ?_
        try simp only [zX]
        refine zT 5 rfl ?_
        try simp only [zX]
        refine zT 6 rfl ?_
        try simp only [zX]
        refine zT 7 rfl ?_
        try simp only [zX]
        refine zT 8 rfl ?_
        try simp only [zX]
        refine zT 9 rfl ?_
        try simp only [zX]
        refine zT 10 rfl ?_
        try simp only [zX]
        refine zT 11 rfl ?_
        try simp only [zX]
        refine zT 12 rfl ?_
        try simp only [zX]
        refine zT 13 rfl ?_
        try simp only [zX]
        refine zT 14 rfl ?_
        try simp only [zX]
        refine zT 15 rfl ?_
        try simp only [zX]
        refine zT 16 rfl ?_
        try simp only [zX]
        refine zT 17 rfl ?_
        try simp only [zX]
        refine zT 18 rfl ?_
        try simp only [zX]
        refine zT 19 rfl ?_
        try simp only [zX]
        refine zT 20 rfl ?_
        try simp only [zX]
        refine zT 21 rfl ?_
        try simp only [zX]
        refine zT 22 rfl ?_
        try simp only [zX]
        refine zT 23 rfl ?_
        try simp only [zX]
        refine zT 24 rfl ?_
        try simp only [zX]
        refine zT 25 rfl ?_
        try simp only [zX]
        refine zT 26 rfl ?_
        try simp only [zX]
        refine zT 27 rfl ?_
        try simp only [zX]
        refine zT 28 rfl ?_
        try simp only [zX]
        refine zT 29 rfl ?_
        try simp only [zX]
        refine zT 30 rfl ?_
        try simp only [zX]
        refine zT 31 rfl ?_
        try simp only [zX]
        refine wpAnyH_take (i := 32) (v := undef) rfl (by kernel_rfl) (by kernel_rfl) (by kernel_rfl) (fun _ _ _ h => h) (Or.inr ⟨?w4_32, rfl⟩) (by assumption) ?r4_32
        case' w4_32 => first | rfl | (simp [Region.wanted, yielded, *]; done)
        try simp only [zX]
        refine wpAnyH_take (i := 33) (v := undef) rfl (by kernel_rfl) (by kernel_rfl) (by kernel_rfl) (fun _ _ _ h => h) (Or.inr ⟨?w4_33, rfl⟩) (by assumption) ?r4_33
        case' w4_33 => first | rfl | (simp [Region.wanted, yielded, *]; done)
        try simp only [zX]
        refine wpAnyH_take (i := 34) (v := undef) rfl (by kernel_rfl) (by kernel_rfl) (by kernel_rfl) (fun _ _ _ h => h) (Or.inr ⟨?w4_34, rfl⟩) (by assumption) ?r4_34
        case' w4_34 => first | rfl | (simp [Region.wanted, yielded, *]; done)
        try simp only [zX]
        refine wpAnyH_take (i := 35) (v := undef) rfl (by kernel_rfl) (by kernel_rfl) (by kernel_rfl) (fun _ _ _ h => h) (Or.inr ⟨?w4_35, rfl⟩) (by assumption) ?r4_35
        case' w4_35 => first | rfl | (simp [Region.wanted, yielded, *]; done)
        try simp only [zX]
        refine wpAnyH_take (i := 36) (v := undef) rfl (by kernel_rfl) (by kernel_rfl) (by kernel_rfl) (fun _ _ _ h => h) (Or.inr ⟨?w4_36, rfl⟩) (by assumption) ?r4_36
        case' w4_36 => first | rfl | (simp [Region.wanted, yielded, *]; done)
        try simp only [zX]
        refine wpAnyH_take (i := 37) (v := undef) rfl (by kernel_rfl) (by kernel_rfl) (by kernel_rfl) (fun _ _ _ h => h) (Or.inr ⟨?w4_37, rfl⟩) (by assumption) ?r4_37
        case' w4_37 => first | rfl | (simp [Region.wanted, yielded, *]; done)
        try simp only [zX]
        refine wpAnyH_take (i := 38) (v := undef) rfl (by kernel_rfl) (by kernel_rfl) (by kernel_rfl) (fun _ _ _ h => h) (Or.inr ⟨?w4_38, rfl⟩) (by assumption) ?r4_38
        case' w4_38 => first | rfl | (simp [Region.wanted, yielded, *]; done)
        try simp only [zX]
        refine wpAnyH_take (i := 39) (v := undef) rfl (by kernel_rfl) (by kernel_rfl) (by kernel_rfl) (fun _ _ _ h => h) (Or.inr ⟨?w4_39, rfl⟩) (by assumption) ?r4_39
        case' w4_39 => first | rfl | (simp [Region.wanted, yielded, *]; done)
        try simp only [zX]
        refine wpAnyH_take (i := 40) (v := undef) rfl (by kernel_rfl) (by kernel_rfl) (by kernel_rfl) (fun _ _ _ h => h) (Or.inr ⟨?w4_40, rfl⟩) (by assumption) ?r4_40
        case' w4_40 => first | rfl | (simp [Region.wanted, yielded, *]; done)
        try simp only [zX]
        refine zT 41 rfl ?_
        try simp only [zX]
        refine zT 42 rfl ?_
        try simp only [zX]
        refine zT 43 rfl ?_
        try simp only [zX]
        refine zT 44 rfl ?_
        try simp only [zX]
        refine wpAnyH_done (by kernel_rfl) ?_ _
        generalize hw7 : World.drew _ = w7 at hHeld ⊢
        have HW7 := hide (Below.to HW4.out hHeld (Nat.le_refl _))
        have HX7 := hide (box_to HX4.out hHeld)
        clear hw7 hHeld x0 x1 x2 lx f0 f1 f2
        have x0 := cellOf HX7.out 0
        have x1 := cellOf HX7.out 1
        have x2 := cellOf HX7.out 2
        have lx := box_lt HX7.out
        go_wp2_with fail
        go_roundw
        case rel => exact ⟨p + 1 + 1, z1 + d.c, z2 + d.c * d.s * d.n, by go_num, by go_num, by go_num, by omega, HC1.out, HC2.out, HW7.out⟩
        case measure => simp [intOf]; omega
end Go.Proofs.YtehadoecnmfeoaaGreat

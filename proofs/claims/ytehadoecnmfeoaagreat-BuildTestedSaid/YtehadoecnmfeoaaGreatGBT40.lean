/- Part 40 of this claim's texts: walks and plain laws. -/
import Derived.Test.YtehadoecnmfeoaaGreatRows
import Derived.Test.YtehadoecnmfeoaaGreatGBT39
import Derived.Deep.DeepMust
import Derived.Deep.RegionHeld3
import Derived.Deep.DrawnRows
import Derived.Test.YtehadoecnmfeoaaGreatGBT3
/- Passed tests and what nets say then: walk of BuildTested. -/
namespace Go.Proofs.YtehadoecnmfeoaaGreat
open Go.Joins Go.ChangeShapes Go.WideShapes Go.ChangeAt Go.RowKit Go.Deep
set_option linter.unusedVariables false
set_option linter.unusedSimpArgs false
theorem ints_row {w : World} {B : Nat} {v : Value} {L : List Nat} (h : w.ownsRow B 3 1 v L.length (L.map fun (n : Nat) => Value.int .i64 n)) : Ints w w.heap.size v (L.map fun (n : Nat) => (n : Int)) := by
  have h1 := Nods.of_own h
  unfold Nods at h1
  unfold Ints
  rw [List.length_map]
  refine Sl.congr h1 fun i j hi hj => ?_
  rw [List.getD_eq_getElem?_getD, List.getD_eq_getElem?_getD, List.getElem?_map, List.getElem?_eq_getElem hi]
  rfl
set_option maxRecDepth 100000 in
set_option maxHeartbeats 16000000 in
theorem buildTested_walk (As : Option Addr) (qs : Nat) (ts : List Int) (x : List Bool) (Ax : Option Addr) (qx : Nat) (A0 A1 A2 A3 A4 A5 : Option Addr) (q0 q1 q2 q3 q4 q5 : Nat) (l : Lo) (w : World) (hroom : l.ws.length ≤ 17592186044000) (hs : SizedL l) (hm : ts.length ≤ maxLen) (h : LoA w w.heap.size A0 A1 A2 A3 A4 A5 q0 q1 q2 q3 q4 q5 l) (hx : Bols w w.heap.size (.slice Ax x.length qx) x) (hv : Ints w w.heap.size (.slice As ts.length qs) ts) :
    Calls Tryz.prog 13 #[.agg #[.slice A0 l.m.opts.length q0, .slice A1 l.m.rules.length q1, .slice A2 l.ss.length q2, .slice A3 l.us.length q3, .slice A4 l.ps.length q4, .slice A5 l.ws.length q5], .slice Ax x.length qx, .slice As ts.length qs] w fun e w' => e = .returned (.bool true) ∧ Below w.heap.size w w' := by
  obtain ⟨i0, hi0, iz0, iz1, iz2⟩ := info_parts infoInt
  have H := hide h
  have HS := hide hs
  have HX := hide hx
  have HV := hide hv
  have HM := hide hm
  clear h hs hx hv hm
  obtain ⟨lg, hlg⟩ : ∃ z, lrgB l [] = z := ⟨_, rfl⟩
  have hlarge : ∀ (W : World), LoA W W.heap.size A0 A1 A2 A3 A4 A5 q0 q1 q2 q3 q4 q5 l → Calls Tryz.prog 14 #[.agg #[.slice A0 l.m.opts.length q0, .slice A1 l.m.rules.length q1, .slice A2 l.ss.length q2, .slice A3 l.us.length q3, .slice A4 l.ps.length q4, .slice A5 l.ws.length q5], .slice none 0 0] W fun e w' => e = .returned (.bool lg) ∧ Below W.heap.size W w' := fun W hW => by
    have h1 := large12_any [] none 0 A0 A1 A2 A3 A4 A5 q0 q1 q2 q3 q4 q5 l W hW
    rw [hlg] at h1
    exact h1
  have HLA := hide hlarge
  clear hlarge hlg
  cases lg with
  | true =>
    go_enter Tryz.func13, Tryz.ntmps13
    go_upto_region 1 with (fail)
    generalize hw0 : World.alloc _ _ = w0
    obtain ⟨hb0, hB0, hs0⟩ := alloc1 hw0
    have HB0 := hide hB0
    have c0 := cellOf hb0 0; have c1 := cellOf hb0 1; have c2 := cellOf hb0 2; have c3 := cellOf hb0 3; have c4 := cellOf hb0 4; have c5 := cellOf hb0 5
    have hlb := box_lt hb0
    clear hw0 hb0 hB0 hs0
    go_wp2_with (first
      | (go_at_call 14; refine (HLA.out _ (H.out.up HB0.out)).mono ?_; rintro e w1 ⟨rfl, hB1⟩; have HB1 := hide (Below.to HB0.out hB1 (Nat.le_refl _)); clear hB1 c0 c1 c2 c3 c4 c5 hlb)
      | (go_at_call 15; refine (works_build _).mono ?_; rintro e w2 ⟨rfl, hB2⟩))
    go_ret
    exact ⟨rfl, Below.to HB1.out hB2 (Nat.le_refl _)⟩
  | false =>
  obtain ⟨R, hR⟩ : ∃ z, rgtK l x l.ws.length = z := ⟨_, rfl⟩
  obtain ⟨ri, hri⟩ : ∃ z, R.map (fun (n : Nat) => (n : Int)) = z := ⟨_, rfl⟩
  have hril : ri.length = R.length := by rw [← hri]; simp
  have hRl : R.length ≤ 17592186044000 := by
    have h1 := rgtK_le l x l.ws.length
    rw [hR] at h1
    omega
  have hrm : ri.length ≤ maxLen := by unfold maxLen; omega
  have HRL := hide hril
  have HRM := hide hrm
  have HR := hide hR
  have HRI := hide hri
  obtain ⟨eo, heo⟩ : ∃ z, pasE l x ri = z := ⟨_, rfl⟩
  obtain ⟨vo, hvo⟩ : ∃ z, pasV l x ri = z := ⟨_, rfl⟩
  have HEO := hide heo
  have HVO := hide hvo
  have HOK : Hid (eo = 0 → vo = true ∧ copE l x = 0 ∧ ntsE l ri = 0 ∧ ntsL l ri = prbN l x) := fun h0 => by
    have h1 := pas_right (l := l) (x := x) (by rw [hR, hri, heo]; exact h0)
    rw [hR, hri, hvo] at h1
    exact h1
  clear hR hri hril hrm hRl heo hvo
  go_enter Tryz.func13, Tryz.ntmps13
  go_upto_region 1 with (fail)
  generalize hw0 : World.alloc _ _ = w0
  obtain ⟨hb0, hB0, hs0⟩ := alloc1 hw0
  have HB0 := hide hB0
  have HL0 : Hid (LoBox w0 w.heap.size A0 A1 A2 A3 A4 A5 q0 q1 q2 q3 q4 q5 l) := hb0
  have c0 := cellOf hb0 0; have c1 := cellOf hb0 1; have c2 := cellOf hb0 2; have c3 := cellOf hb0 3; have c4 := cellOf hb0 4; have c5 := cellOf hb0 5
  have hlb := box_lt hb0
  obtain ⟨lb, hlbe⟩ : ∃ z, w.heap.size = z := ⟨_, rfl⟩
  clear hw0 hb0 hB0 hs0 hlbe
  go_upto_region 3 with (go_at_call 14; refine (HLA.out _ (H.out.up HB0.out)).mono ?_; rintro e w1 ⟨rfl, hB1⟩; have HL1 := hide (HL0.out.to hB1); have HB1 := hide (Below.to HB0.out hB1 (Nat.le_refl _)); clear hB1 c0 c1 c2 c3 c4 c5 hlb)
  obtain ⟨W1, hW1⟩ : ∃ wo : World, wo = w1 := ⟨_, rfl⟩
  subst hW1
  go_wp2_with fail
  go_loopw [7, 8] (fun rv iv wr => ∃ k : Nat, iv = .int .i64 k ∧ k ≤ l.ws.length ∧ Hid (wr.ownsRow W1.heap.size 3 1 rv (rgtK l x k).length ((rgtK l x k).map fun (n : Nat) => Value.int .i64 n)) ∧ Hid (Below W1.heap.size W1 wr)) (fun _ iv _ => l.ws.length - (intOf iv).toNat)
  case atStart => exact ⟨0, rfl, Nat.zero_le _, World.ownsRow_nil _ _ _ _, Below.refl _ _⟩
  case round =>
    obtain ⟨k, rfl, hk, HO, HW⟩ := hrel
    obtain ⟨K, hK⟩ : ∃ z, rgtK l x k = z := ⟨_, rfl⟩
    have hKl : K.length ≤ 17592186044000 := by
      rw [← hK]
      have := rgtK_le l x k
      omega
    rw [hK] at HO
    have HK := hide hK
    obtain ⟨Ar, qr, e1⟩ := owns_form HO.out
    subst e1
    have HBr := hide (Below.to HB1.out HW.out (Nat.le_refl _))
    have HLr := hide (HL1.out.to HW.out)
    have c0 := cellOf HLr.out 0; have c1 := cellOf HLr.out 1; have c2 := cellOf HLr.out 2; have c3 := cellOf HLr.out 3; have c4 := cellOf HLr.out 4; have c5 := cellOf HLr.out 5
    have hlb := box_lt HLr.out
    clear hK
    by_cases hlt : k < l.ws.length
    case pos =>
      have hlt1 : (k : Int) < (l.ws.length : Int) := by omega
      have ik0 : (0 : Int) ≤ (k : Int) := by omega
      obtain ⟨b5, o5, y, Af, qf, HY, hA5, hb5, hq5, HYF, y0, y1, y2, y3, y4, y5, y6⟩ := (H.out.up HBr.out).wi hlt
      subst hA5
      have iq5 : (l.ws.length : Int) ≤ (q5 : Int) := by omega
      obtain ⟨he, hhe⟩ : ∃ z, holE l.m y.form x = z := ⟨_, rfl⟩
      obtain ⟨hb, hhb⟩ : ∃ z, holB l.m y.form x = z := ⟨_, rfl⟩
      have hfl := (HS.out.wn (l.ws.getD k Wi.o) (getD_mem7 hlt)).2
      rw [HY.out] at hfl
      have HFL := hide hfl
      have HHE := hide hhe
      have HHB := hide hhb
      have hks := rgtK_succ l x k
      unfold rgtB at hks
      rw [HY.out, hhe, hhb, HK.out] at hks
      have HKS := hide hks
      have HLT := hide hlt
      clear hfl hhe hhb hks hq5 y0 y1 y2 y3 y4 y5
      go_upto_region 7 with (fail)
      refine wp_region_held_drew (S := (fun w' => Below wr.heap.size wr w')) (by kernel_rfl) ?_ (fun hHeld => ?_)
      · try dsimp only
        exact (by repeat (first | exact Below.refl _ _ | assumption | refine Below.drew ?_ | refine Below.drewN ?_ _ | refine Below.allocT ?_ (Nat.le_refl _) _ | refine Below.setCell ?_ (by simp <;> omega) _ | refine Below.to ?_ (by assumption) (Nat.le_refl _)))
      refine zT 0 rfl ?_
      refine zT 1 rfl ?_
      refine zT 2 rfl ?_
      refine zT 3 rfl ?_
      refine zT 4 rfl ?_
      refine zT 5 rfl ?_
      refine zT 6 rfl ?_
      refine zT 7 rfl ?_
      refine zT 8 rfl ?_
      refine wpAnyH_ready (rs := [9]) (by kernel_rfl) (by simp) ?_
      refine AllReadyH.cons rfl (fun K hK => ?_) AllReadyH.nil
      go_simp
      ((go_at_call 37; refine (Holds_any l.m y.form x _ _ _ _ _ HS.out.m HFL.out (H.out.up (Below.to HBr.out (by repeat (first | exact Below.refl _ _ | assumption | refine Below.drew ?_ | refine Below.drewN ?_ _ | refine Below.allocT ?_ (Nat.le_refl _) _ | refine Below.setCell ?_ (by simp <;> omega) _ | refine Below.to ?_ (by assumption) (Nat.le_refl _))) (Nat.le_refl _))).m (HYF.out.up (by repeat (first | exact Below.refl _ _ | assumption | refine Below.drew ?_ | refine Below.drewN ?_ _ | refine Below.allocT ?_ (Nat.le_refl _) _ | refine Below.setCell ?_ (by simp <;> omega) _ | refine Below.to ?_ (by assumption) (Nat.le_refl _)))) (Sl.up HX.out (Below.to HBr.out (by repeat (first | exact Below.refl _ _ | assumption | refine Below.drew ?_ | refine Below.drewN ?_ _ | refine Below.allocT ?_ (Nat.le_refl _) _ | refine Below.setCell ?_ (by simp <;> omega) _ | refine Below.to ?_ (by assumption) (Nat.le_refl _))) (Nat.le_refl _)))).mono ?_; rw [HHE.out, HHB.out]; rintro e w5 ⟨rfl, hB5⟩))
      (try dsimp only)
      refine hK.out _ _ ?_ (fun hNext => ?_)
      · try dsimp only
        exact (by repeat (first | exact Below.refl _ _ | assumption | refine Below.drew ?_ | refine Below.drewN ?_ _ | refine Below.allocT ?_ (Nat.le_refl _) _ | refine Below.setCell ?_ (by simp <;> omega) _ | refine Below.to ?_ (by assumption) (Nat.le_refl _)))
      clear hK K hHeld
      have hHeld := hNext
      clear hNext
      (try dsimp only at hHeld)
      try simp only [zX]
      refine zT 10 rfl ?_
      refine zT 11 rfl ?_
      refine zT 12 rfl ?_
      refine zT 13 rfl ?_
      refine zT 14 rfl ?_
      refine wpAnyH_done (by kernel_rfl) ?_ _
      have HW5 := hide (Below.to HW.out hHeld (Nat.le_refl _))
      have HO5 := hide (owns_below HO.out hHeld)
      clear hHeld c0 c1 c2 c3 c4 c5 hlb y6 hb5
      by_cases h0 : he = 0
      · have g1 : (he == 0) = true := by simpa using h0
        cases hb with
        | true =>
          have HKN : Hid (rgtK l x (k + 1) = K ++ [k]) := by show _ = _; rw [HKS.out, h0]; rfl
          clear h0
          go_wp2_with (at_builtin; go_must (refine wpList_append_own_at _ rfl (.tmp 49) (.tmp 51) _ rfl (W1.heap.size) 3 i0 _ 1 8 Tryz.underlying45 hi0 iz0 iz1 iz2 rfl (by omega) _ _ _ rfl ((HO5.out).alloc _) ⟨w5.heap.size, 0, none⟩ 1 1 [.int .i64 (k : Nat)] rfl rfl (World.news_of_block (heap_alloc_new w5 _)) (by simp [Value.oneCell']) (by have h1 := hKl; unfold maxLen; omega) (by have h1 := hKl; omega) (by have h1 := HW5.out.size; simp; omega) ?_); intro v1 w3 hown1 hg1 _ hat1; obtain ⟨A9, q9, e2⟩ := owns_form hown1; subst e2; have HO6 := hide hown1; have HW6 := hide (own_low HW5.out HO5.out (Nat.le_refl _) hg1); clear hown1 hg1 hat1)
          go_roundw
          case rel => exact ⟨k + 1, by go_num, HLT.out, by show World.ownsRow _ _ _ _ _ _ _; rw [HKN.out, List.length_append, List.map_append]; exact HO6.out, HW6.out⟩
          case measure => simp [intOf]; have := HLT.out; omega
        | false =>
          have HKN : Hid (rgtK l x (k + 1) = K) := by show _ = _; rw [HKS.out, Bool.and_false]; rfl
          clear h0
          go_wp2_with fail
          go_roundw
          case rel => exact ⟨k + 1, by go_num, HLT.out, by rw [HKN.out]; exact HO5.out, HW5.out⟩
          case measure => simp [intOf]; have := HLT.out; omega
      · have g1 : (he == 0) = false := by simpa using h0
        have HKN : Hid (rgtK l x (k + 1) = K) := by show _ = _; rw [HKS.out, decide_eq_false h0]; rfl
        clear h0
        go_wp2_with fail
        go_roundw
        case rel => exact ⟨k + 1, by go_num, HLT.out, by rw [HKN.out]; exact HO5.out, HW5.out⟩
        case measure => simp [intOf]; have := HLT.out; omega
    case neg =>
      have hlt1 : ¬ (k : Int) < (l.ws.length : Int) := by omega
      have hkl : k = l.ws.length := by omega
      have hKR : K = R := by rw [← HK.out, hkl]; exact HR.out
      subst hKR
      have HRV : Hid (Ints wr wr.heap.size (.slice Ar K.length qr) ri) := by
        have h1 := ints_row HO.out
        rw [HRI.out] at h1
        exact h1
      have HRW : Hid (∀ W, Below wr.heap.size wr W → Ints W W.heap.size (.slice Ar ri.length qr) ri) := fun W hW => by
        rw [HRL.out]
        exact HRV.out.up hW
      have HPO : Hid (∀ W, Below wr.heap.size wr W → Calls Tryz.prog 48 #[.agg #[.slice A0 l.m.opts.length q0, .slice A1 l.m.rules.length q1, .slice A2 l.ss.length q2, .slice A3 l.us.length q3, .slice A4 l.ps.length q4, .slice A5 l.ws.length q5], .slice Ax x.length qx, .slice Ar K.length qr] W (PasP vo eo W)) := fun W hW => by
        have h1 := Passed_any x Ax qx Ar qr ri A0 A1 A2 A3 A4 A5 q0 q1 q2 q3 q4 q5 l W HS.out HRM.out (H.out.up (Below.to HBr.out hW (Nat.le_refl _))) (Sl.up HX.out (Below.to HBr.out hW (Nat.le_refl _))) (HRW.out W hW)
        rw [HVO.out, HEO.out, HRL.out] at h1
        exact h1
      clear hkl hKl
      by_cases h0 : eo = 0
      case neg =>
        have g1 : (eo != 0) = true := by simpa using h0
        clear h0
        go_wp2_with (first
          | (go_at_call 48; refine (HPO.out _ (Below.refl _ _)).mono ?_; rintro e w5 ⟨rfl, hB5⟩; have HB5 := hide (Below.to HBr.out hB5 (Nat.le_refl _)); clear hB5 c0 c1 c2 c3 c4 c5 hlb)
          | (go_at_call 15; refine (works_build _).mono ?_; rintro e w9 ⟨rfl, hB9⟩))
        go_ret
        exact ⟨rfl, Below.to HB5.out hB9 (Nat.le_refl _)⟩
      case pos =>
      obtain ⟨hvt, hc0, hnr, hnl⟩ := HOK.out h0
      subst h0
      subst hvt
      have g0 : ((0 : Int) != 0) = false := by decide
      obtain ⟨ew, hew⟩ : ∃ z, pasE l x ts = z := ⟨_, rfl⟩
      obtain ⟨vw, hvw⟩ : ∃ z, pasV l x ts = z := ⟨_, rfl⟩
      have HEW := hide hew
      have HVW := hide hvw
      have HNR := hide hnr
      have HNLR := hide hnl
      clear hnr hnl hc0 hew hvw
      go_upto_region 13 with (go_at_call 48; refine (HPO.out _ (Below.refl _ _)).mono ?_; rintro e w5 ⟨rfl, hB5⟩; have HL5 := hide (HLr.out.to hB5); have HW5 := hide hB5; have HB5 := hide (Below.to HBr.out hB5 (Nat.le_refl _)); clear hB5 c0 c1 c2 c3 c4 c5 hlb)
      have d0 := cellOf HL5.out 0; have d1 := cellOf HL5.out 1; have d2 := cellOf HL5.out 2; have d3 := cellOf HL5.out 3; have d4 := cellOf HL5.out 4; have d5 := cellOf HL5.out 5
      have hld := box_lt HL5.out
      go_upto_region 14 with (go_at_call 48; refine (Passed_any x Ax qx As qs ts A0 A1 A2 A3 A4 A5 q0 q1 q2 q3 q4 q5 l w5 HS.out HM.out (H.out.up HB5.out) (Sl.up HX.out HB5.out) (Ints.up HV.out HB5.out)).mono ?_; rw [HEW.out, HVW.out]; rintro e w6 ⟨rfl, hB6⟩; have HL6 := hide (HL5.out.to hB6); have HW6 := hide (Below.to HW5.out hB6 (Nat.le_refl _)); have HB6 := hide (Below.to HB5.out hB6 (Nat.le_refl _)); clear hB6 d0 d1 d2 d3 d4 d5 hld)
      by_cases h1 : ew = 0
      case neg =>
        have g1 : (ew != 0) = true := by simpa using h1
        clear h1
        go_wp2_with (go_at_call 15; refine (works_build _).mono ?_; rintro e w9 ⟨rfl, hB9⟩)
        go_ret
        exact ⟨rfl, Below.to HB6.out hB9 (Nat.le_refl _)⟩
      case pos =>
      subst h1
      cases vw with
      | false =>
        go_wp2_with (go_at_call 15; refine (works_build _).mono ?_; rintro e w9 ⟨rfl, hB9⟩)
        go_ret
        exact ⟨rfl, Below.to HB6.out hB9 (Nat.le_refl _)⟩
      | true =>
      obtain ⟨hnw, hps⟩ := pas_other HEW.out HVW.out
      obtain ⟨o, ho⟩ : ∃ z, prbN l x = z := ⟨_, rfl⟩
      obtain ⟨Q, hQ⟩ : ∃ z, ntsL l ts = z := ⟨_, rfl⟩
      rw [ho, hQ] at hps
      have HPS := hide hps
      have HNW := hide hnw
      have HO2 : Hid (ntsL l ri = o) := by show _ = _; rw [HNLR.out, ho]
      have HQ := hide hQ
      have HOI : Hid (NetI o) := by show NetI _; rw [← ho]; exact netL_i _
      have HQI : Hid (NetI Q) := by show NetI _; rw [← hQ]; exact nets_i
      have hol : o.length ≤ 100 := by rw [← HO2.out]; exact (ntsL_small l ri).1
      have hot : Hid (totN o ≤ 1000) := by show _ ≤ _; rw [← HO2.out]; exact (ntsL_small l ri).2
      have hql : Hid (Q.length ≤ 100000) := by show _ ≤ _; rw [← hQ]; have := (ntsL_small l ts).1; omega
      have HPN : Hid (∀ W, Below wr.heap.size wr W → Calls Tryz.prog 42 #[.agg #[.slice A0 l.m.opts.length q0, .slice A1 l.m.rules.length q1, .slice A2 l.ss.length q2, .slice A3 l.us.length q3, .slice A4 l.ps.length q4, .slice A5 l.ws.length q5], .slice Ar K.length qr] W (NtsP 0 o W)) := fun W hW => by
        have h1 := Nets_any Ar qr ri A0 A1 A2 A3 A4 A5 q0 q1 q2 q3 q4 q5 l W HS.out HRM.out (H.out.up (Below.to HBr.out hW (Nat.le_refl _))) (HRW.out W hW)
        rw [HNR.out, HO2.out, HRL.out] at h1
        exact h1
      clear hps hnw ho hQ
      go_upto_region 16 with (fail)
      have c0 := cellOf HL6.out 0; have c1 := cellOf HL6.out 1; have c2 := cellOf HL6.out 2; have c3 := cellOf HL6.out 3; have c4 := cellOf HL6.out 4; have c5 := cellOf HL6.out 5
      have hlb := box_lt HL6.out
      go_upto_region 17 with (go_at_call 42; refine (HPN.out _ HW6.out).mono ?_; rintro e w7 ⟨v7, vs7, rfl, hN7, hB7⟩; obtain ⟨A7, q7, e7⟩ := owns_form hN7.own; subst e7; have HN7 := hide hN7; have HL7 := hide (HL6.out.to hB7); have HB7 := hide (Below.to HB6.out hB7 (Nat.le_refl _)); clear hN7 hB7 c0 c1 c2 c3 c4 c5 hlb)
      have d0 := cellOf HL7.out 0; have d1 := cellOf HL7.out 1; have d2 := cellOf HL7.out 2; have d3 := cellOf HL7.out 3; have d4 := cellOf HL7.out 4; have d5 := cellOf HL7.out 5
      have hld := box_lt HL7.out
      go_upto_region 18 with (go_at_call 42; refine (Nets_any As qs ts A0 A1 A2 A3 A4 A5 q0 q1 q2 q3 q4 q5 l w7 HS.out HM.out (H.out.up HB7.out) (Ints.up HV.out HB7.out)).mono ?_; rw [HNW.out, HQ.out]; rintro e w8 ⟨v8, vs8, rfl, hN8, hB8⟩; have HN78 := hide (HN7.out.below (Nat.le_refl _) hB8); have HS78 : Hid (w7.heap.size ≤ w8.heap.size) := hB8.size; have HN8 := hide hN8; have HB8 := hide (Below.to HB7.out hB8 (Nat.le_refl _)); clear hN8 hB8 d0 d1 d2 d3 d4 d5 hld)
      obtain ⟨W8, hW8⟩ : ∃ wo : World, wo = w8 := ⟨_, rfl⟩
      subst hW8
      obtain ⟨b0, hb0⟩ : ∃ z, w6.heap.size = z := ⟨_, rfl⟩
      obtain ⟨BB, hBB⟩ : ∃ z, w7.heap.size = z := ⟨_, rfl⟩
      rw [hb0, hBB] at HN78
      rw [hBB] at HS78
      clear hb0 hBB
      have HTG : Hid (∀ p q W, Below W8.heap.size W8 W → Calls Tryz.prog 50 #[v8, .agg #[.int .i64 p.1, .int .i64 p.2], .agg #[.int .i64 q.1, .int .i64 q.2]] W fun e w' => e = .returned (.bool (conB Q p q)) ∧ Below W.heap.size W w') := fun p q W hW =>
        together_any p q Q vs8 v8 _ _ W (HN8.out.below (Nat.le_refl _) hW) hql.out hW.size _ rfl
      have HOL := hide hol
      go_wp2_with fail
      go_loopw [17] (fun iv wr => ∃ i : Nat, iv = .int .i64 i ∧ i ≤ o.length ∧ Hid (Below W8.heap.size W8 wr)) (fun iv _ => o.length - (intOf iv).toNat)
      case atStart => exact ⟨0, rfl, Nat.zero_le _, Below.refl _ _⟩
      case round =>
        obtain ⟨i, rfl, hi, HWi⟩ := hrel
        by_cases hii : i < o.length
        case neg =>
          have hlt1 : ¬ (i : Int) < (o.length : Int) := by omega
          have HZ := hide (Below.to HB8.out HWi.out (Nat.le_refl _))
          go_wp2_with (go_at_call 15; refine (works_build _).mono ?_; rintro e w9 ⟨rfl, hB9⟩)
          go_ret
          exact ⟨rfl, Below.to HZ.out hB9 (Nat.le_refl _)⟩
        case pos =>
        have hii1 : (i : Int) < (o.length : Int) := by omega
        have ii0 : (0 : Int) ≤ (i : Int) := by omega
        have HII := hide hii
        obtain ⟨ni, hni⟩ : ∃ z, o.getD i [] = z := ⟨_, rfl⟩
        have HNI := hide hni
        have hsi := HN78.out.small i hii
        rw [hni] at hsi
        clear hni
        go_wp2_with fail
        go_loopw [18] (fun jv wr => ∃ j : Nat, jv = .int .i64 j ∧ j ≤ o.length ∧ Hid (Below W8.heap.size W8 wr)) (fun jv _ => o.length - (intOf jv).toNat)
        case atStart => exact ⟨0, rfl, Nat.zero_le _, HWi⟩
        case round =>
          obtain ⟨j, rfl, hj, HWj⟩ := hrel
          by_cases hjj : j < o.length
          case neg =>
            have hjj1 : ¬ (j : Int) < (o.length : Int) := by omega
            go_wp2_with fail
            go_roundw
            case rel => exact ⟨i + 1, by go_num, by have := HII.out; omega, HWj⟩
            case measure => simp [intOf]; have := HII.out; omega
          case pos =>
          have hjj1 : (j : Int) < (o.length : Int) := by omega
          have ij0 : (0 : Int) ≤ (j : Int) := by omega
          have HJJ := hide hjj
          obtain ⟨nj, hnj⟩ : ∃ z, o.getD j [] = z := ⟨_, rfl⟩
          have HNJ := hide hnj
          have hsj := HN78.out.small j hjj
          rw [hnj] at hsj
          clear hnj
          go_wp2_with fail
          go_loopw [19] (fun xv wr => ∃ a : Nat, xv = .int .i64 a ∧ a ≤ ni.length ∧ Hid (Below W8.heap.size W8 wr)) (fun xv _ => ni.length - (intOf xv).toNat)
          case atStart => exact ⟨0, rfl, Nat.zero_le _, HWj⟩
          case round =>
            obtain ⟨a, rfl, ha, HWa⟩ := hrel
            have hS := HN78.out.below HS78.out HWa.out
            obtain ⟨g1, A1, q1, n1, HN1, hA1, lg1, hq1, hl1, hv1, cg1, hp1⟩ := hS.at HII.out
            have hne1 : ni = n1 := HNI.out.symm.trans HN1.out
            subst hne1
            subst hA1
            have iq1 : (o.length : Int) ≤ (q7 : Int) := by omega
            clear hS hq1 hl1 hv1 hp1 HN1
            by_cases haa : a < ni.length
            case neg =>
              have haa1 : ¬ (a : Int) < (ni.length : Int) := by omega
              go_wp2_with fail
              go_roundw
              case rel => exact ⟨j + 1, by go_num, by have := HJJ.out; omega, HWa⟩
              case measure => simp [intOf]; have := HJJ.out; omega
            case pos =>
            have haa1 : (a : Int) < (ni.length : Int) := by omega
            have ia0 : (0 : Int) ≤ (a : Int) := by omega
            have HAA := hide haa
            go_wp2_with fail
            go_loopw [20] (fun yv wr => ∃ b : Nat, yv = .int .i64 b ∧ b ≤ nj.length ∧ Hid (Below W8.heap.size W8 wr)) (fun yv _ => nj.length - (intOf yv).toNat)
            case atStart => exact ⟨0, rfl, Nat.zero_le _, HWa⟩
            case round =>
              clear lg1 cg1
              obtain ⟨b, rfl, hb, HWb⟩ := hrel
              have hS := HN78.out.below HS78.out HWb.out
              obtain ⟨g3, A3, q3, n3, HN3, hA3, lg3, hq3, hl3, hv3, cg3, hp3⟩ := hS.at HII.out
              have hne3 : ni = n3 := HNI.out.symm.trans HN3.out
              subst hne3
              obtain ⟨g2, A2, q2, n2, HN2, hA2, lg2, hq2, hl2, hv2, cg2, hp2⟩ := hS.at HJJ.out
              have hne2 : nj = n2 := HNJ.out.symm.trans HN2.out
              subst hne2
              have hg3 : g1 = g3 := by injection hA3 with h1; injection h1
              have hg2 : g1 = g2 := by injection hA2 with h1; injection h1
              subst hg3
              subst hg2
              have HP3 := hide hp3
              have HP2 := hide hp2
              clear hS hq2 hl2 hv2 hp2 HN2 hq3 hl3 hv3 hp3 HN3 hA3 hA2 lg3
              by_cases hbb : b < nj.length
              case neg =>
                have hbb1 : ¬ (b : Int) < (nj.length : Int) := by omega
                go_wp2_with fail
                go_roundw
                case rel => exact ⟨a + 1, by go_num, by have := HAA.out; omega, HWb⟩
                case measure => simp [intOf]; have := HAA.out; omega
              case pos =>
              have hbb1 : (b : Int) < (nj.length : Int) := by omega
              have ib0 : (0 : Int) ≤ (b : Int) := by omega
              have HBB := hide hbb
              obtain ⟨b8, off8, p, HP, hA8, hbb8, hq8, e0, e1⟩ := HP3.out.at8 HAA.out
              obtain ⟨b9, off9, q, HQ9, hA9, hbb9, hq9, f0, f1⟩ := HP2.out.at8 HBB.out
              subst hA8
              subst hA9
              have iq8 : (ni.length : Int) ≤ (q3 : Int) := by omega
              have iq9 : (nj.length : Int) ≤ (q2 : Int) := by omega
              have he := fun w => pinNe p.1 p.2 q.1 q.2 w
              clear hq8 hq9
              go_upto_region 32 with (fail)
              by_cases hpq : p = q
              case pos =>
                have he1 : (p.1 == q.1 && p.2 == q.2) = true := by rw [hpq]; simp
                rw [he1] at he
                clear he1 hpq
                refine wp_region_held_drew (S := (fun w' => Below wr.heap.size wr w')) (by kernel_rfl) ?_ (fun hHeld => ?_)
                · try dsimp only
                  exact (by repeat (first | exact Below.refl _ _ | assumption | refine Below.drew ?_ | refine Below.drewN ?_ _ | refine Below.allocT ?_ (Nat.le_refl _) _ | refine Below.setCell ?_ (by simp <;> omega) _ | refine Below.to ?_ (by assumption) (Nat.le_refl _)))
                refine zT 0 rfl ?_
                refine zT 1 rfl ?_
                refine zT 2 rfl ?_
                refine zT 3 rfl ?_
                refine zT 4 rfl ?_
                refine zT 5 rfl ?_
                refine zT 6 rfl ?_
                refine zT 7 rfl ?_
                refine zT 8 rfl ?_
                refine zT 9 rfl ?_
                refine zT 10 rfl ?_
                refine zT 11 rfl ?_
                refine zT 12 rfl ?_
                refine zT 13 rfl ?_
                refine zT 14 rfl ?_
                refine zT 15 rfl ?_
                refine zS 16 rfl ?_
                refine zS 17 rfl ?_
                refine zS 18 rfl ?_
                refine zS 19 rfl ?_
                refine zS 20 rfl ?_
                refine zS 21 rfl ?_
                refine zS 22 rfl ?_
                refine zS 23 rfl ?_
                refine zS 24 rfl ?_
                refine zS 25 rfl ?_
                refine zS 26 rfl ?_
                refine zS 27 rfl ?_
                refine zS 28 rfl ?_
                refine zS 29 rfl ?_
                refine zS 30 rfl ?_
                refine zS 31 rfl ?_
                refine zS 32 rfl ?_
                refine zS 33 rfl ?_
                refine zS 34 rfl ?_
                refine zS 35 rfl ?_
                refine zT 36 rfl ?_
                refine wpAnyH_done (by kernel_rfl) ?_ _
                have HWz := hide (Below.to HWb.out hHeld (Nat.le_refl _))
                clear hHeld
                go_wp2_with fail
                go_roundw
                case rel => exact ⟨b + 1, by go_num, by have := HBB.out; omega, HWz⟩
                case measure => simp [intOf]; have := HBB.out; omega
              case neg =>
                have he1 : (p.1 == q.1 && p.2 == q.2) = false := by
                  rw [Bool.eq_false_iff]
                  intro h
                  rw [Bool.and_eq_true, beq_iff_eq, beq_iff_eq] at h
                  exact hpq (Prod.ext h.1 h.2)
                rw [he1] at he
                have hsay := pas_says HOI.out HQI.out HPS.out HII.out HJJ.out (x := a) (y := b) (by rw [HNI.out]; exact HAA.out) (by rw [HNJ.out]; exact HBB.out) (by rw [HNI.out, HNJ.out, HP.out, HQ9.out]; exact hpq)
                rw [HNI.out, HNJ.out, HP.out, HQ9.out] at hsay
                obtain ⟨c, hc⟩ : ∃ z, conB Q p q = z := ⟨_, rfl⟩
                have HC := hide hc
                rw [hc] at hsay
                by_cases hij : i = j
                case pos =>
                  rw [decide_eq_true hij] at hsay
                  subst hsay
                  have hij2 : ((i : Int) == (j : Int)) = true := by rw [hij]; simp
                  clear hij
                  clear he1 hpq hc
                  refine wp_region_held_drew (S := (fun w' => Below wr.heap.size wr w')) (by kernel_rfl) ?_ (fun hHeld => ?_)
                  · try dsimp only
                    exact (by repeat (first | exact Below.refl _ _ | assumption | refine Below.drew ?_ | refine Below.drewN ?_ _ | refine Below.allocT ?_ (Nat.le_refl _) _ | refine Below.setCell ?_ (by simp <;> omega) _ | refine Below.to ?_ (by assumption) (Nat.le_refl _)))
                  refine zT 0 rfl ?_
                  refine zT 1 rfl ?_
                  refine zT 2 rfl ?_
                  refine zT 3 rfl ?_
                  refine zT 4 rfl ?_
                  refine zT 5 rfl ?_
                  refine zT 6 rfl ?_
                  refine zT 7 rfl ?_
                  refine zT 8 rfl ?_
                  refine zT 9 rfl ?_
                  refine zT 10 rfl ?_
                  refine zT 11 rfl ?_
                  refine zT 12 rfl ?_
                  refine zT 13 rfl ?_
                  refine zT 14 rfl ?_
                  refine zT 15 rfl ?_
                  refine zT 16 rfl ?_
                  refine zT 17 rfl ?_
                  refine zT 18 rfl ?_
                  refine zT 19 rfl ?_
                  refine zT 20 rfl ?_
                  refine zT 21 rfl ?_
                  refine zT 22 rfl ?_
                  refine zT 23 rfl ?_
                  refine zT 24 rfl ?_
                  refine zT 25 rfl ?_
                  refine zT 26 rfl ?_
                  refine zT 27 rfl ?_
                  refine zT 28 rfl ?_
                  refine zT 29 rfl ?_
                  refine zT 30 rfl ?_
                  refine zT 32 rfl ?_
                  refine zT 33 rfl ?_
                  refine zT 34 rfl ?_
                  refine wpAnyH_ready (rs := [31]) (by kernel_rfl) (by simp) ?_
                  refine AllReadyH.cons rfl (fun K hK => ?_) AllReadyH.nil
                  go_simp
                  ((go_at_call 50; refine (HTG.out p q _ (Below.to HWb.out (by repeat (first | exact Below.refl _ _ | assumption | refine Below.drew ?_ | refine Below.drewN ?_ _ | refine Below.allocT ?_ (Nat.le_refl _) _ | refine Below.setCell ?_ (by simp <;> omega) _ | refine Below.to ?_ (by assumption) (Nat.le_refl _))) (Nat.le_refl _))).mono ?_; rw [HC.out]; rintro e wz ⟨rfl, hBz⟩))
                  (try dsimp only)
                  refine hK.out _ _ ?_ (fun hNext => ?_)
                  · try dsimp only
                    exact (by repeat (first | exact Below.refl _ _ | assumption | refine Below.drew ?_ | refine Below.drewN ?_ _ | refine Below.allocT ?_ (Nat.le_refl _) _ | refine Below.setCell ?_ (by simp <;> omega) _ | refine Below.to ?_ (by assumption) (Nat.le_refl _)))
                  clear hK K hHeld
                  have hHeld := hNext
                  clear hNext
                  (try dsimp only at hHeld)
                  try simp only [zX]
                  refine zT 35 rfl ?_
                  refine zT 36 rfl ?_
                  refine wpAnyH_done (by kernel_rfl) ?_ _
                  have HWz := hide (Below.to HWb.out hHeld (Nat.le_refl _))
                  clear hHeld
                  go_wp2_with fail
                  go_roundw
                  case rel => exact ⟨b + 1, by go_num, by have := HBB.out; omega, HWz⟩
                  case measure => simp [intOf]; have := HBB.out; omega
                case neg =>
                  rw [decide_eq_false hij] at hsay
                  subst hsay
                  have hij1 : ¬ (i : Int) = (j : Int) := by omega
                  have hij2 : ((i : Int) == (j : Int)) = false := by rw [beq_eq_false_iff_ne]; exact hij1
                  clear he1 hpq hc
                  refine wp_region_held_drew (S := (fun w' => Below wr.heap.size wr w')) (by kernel_rfl) ?_ (fun hHeld => ?_)
                  · try dsimp only
                    exact (by repeat (first | exact Below.refl _ _ | assumption | refine Below.drew ?_ | refine Below.drewN ?_ _ | refine Below.allocT ?_ (Nat.le_refl _) _ | refine Below.setCell ?_ (by simp <;> omega) _ | refine Below.to ?_ (by assumption) (Nat.le_refl _)))
                  refine zT 0 rfl ?_
                  refine zT 1 rfl ?_
                  refine zT 2 rfl ?_
                  refine zT 3 rfl ?_
                  refine zT 4 rfl ?_
                  refine zT 5 rfl ?_
                  refine zT 6 rfl ?_
                  refine zT 7 rfl ?_
                  refine zT 8 rfl ?_
                  refine zT 9 rfl ?_
                  refine zT 10 rfl ?_
                  refine zT 11 rfl ?_
                  refine zT 12 rfl ?_
                  refine zT 13 rfl ?_
                  refine zT 14 rfl ?_
                  refine zT 15 rfl ?_
                  refine zT 16 rfl ?_
                  refine zT 17 rfl ?_
                  refine zT 18 rfl ?_
                  refine zT 19 rfl ?_
                  refine zT 20 rfl ?_
                  refine zT 21 rfl ?_
                  refine zT 22 rfl ?_
                  refine zT 23 rfl ?_
                  refine zT 24 rfl ?_
                  refine zT 25 rfl ?_
                  refine zT 26 rfl ?_
                  refine zT 27 rfl ?_
                  refine zT 28 rfl ?_
                  refine zT 29 rfl ?_
                  refine zT 30 rfl ?_
                  refine zT 32 rfl ?_
                  refine zT 33 rfl ?_
                  refine zT 34 rfl ?_
                  refine wpAnyH_ready (rs := [31]) (by kernel_rfl) (by simp) ?_
                  refine AllReadyH.cons rfl (fun K hK => ?_) AllReadyH.nil
                  go_simp
                  ((go_at_call 50; refine (HTG.out p q _ (Below.to HWb.out (by repeat (first | exact Below.refl _ _ | assumption | refine Below.drew ?_ | refine Below.drewN ?_ _ | refine Below.allocT ?_ (Nat.le_refl _) _ | refine Below.setCell ?_ (by simp <;> omega) _ | refine Below.to ?_ (by assumption) (Nat.le_refl _))) (Nat.le_refl _))).mono ?_; rw [HC.out]; rintro e wz ⟨rfl, hBz⟩))
                  (try dsimp only)
                  refine hK.out _ _ ?_ (fun hNext => ?_)
                  · try dsimp only
                    exact (by repeat (first | exact Below.refl _ _ | assumption | refine Below.drew ?_ | refine Below.drewN ?_ _ | refine Below.allocT ?_ (Nat.le_refl _) _ | refine Below.setCell ?_ (by simp <;> omega) _ | refine Below.to ?_ (by assumption) (Nat.le_refl _)))
                  clear hK K hHeld
                  have hHeld := hNext
                  clear hNext
                  (try dsimp only at hHeld)
                  try simp only [zX]
                  refine zT 35 rfl ?_
                  refine zT 36 rfl ?_
                  refine wpAnyH_done (by kernel_rfl) ?_ _
                  have HWz := hide (Below.to HWb.out hHeld (Nat.le_refl _))
                  clear hHeld
                  go_wp2_with fail
                  go_roundw
                  case rel => exact ⟨b + 1, by go_num, by have := HBB.out; omega, HWz⟩
                  case measure => simp [intOf]; have := HBB.out; omega
end Go.Proofs.YtehadoecnmfeoaaGreat

/- Part 37 of this claim's texts: walks and plain laws. -/
import Derived.Test.YtehadoecnmfeoaaGreatRows
import Derived.Test.YtehadoecnmfeoaaGreatGBT36
import Derived.Laws.EntriesVeiled
import Derived.Deep.DeepMust
import Derived.Deep.RegionHeld3
import Derived.Deep.DrawnRows
import Derived.Test.YtehadoecnmfeoaaGreatGBT3
/- Whether wires pass the tests (both): walks. -/
namespace Go.Proofs.YtehadoecnmfeoaaGreat
open Go.RowKit
set_option linter.unusedVariables false
set_option linter.unusedSimpArgs false
noncomputable def pasE (l : Lo) (x : List Bool) (ts : List Int) : Int := if copE l x = 0 then chkE l ts else copE l x
noncomputable def pasV (l : Lo) (x : List Bool) (ts : List Int) : Bool := if pasE l x ts = 0 then pasB (prbN l x) (netL (esL l (ts.map Int.toNat))) else false
def PasP (b : Bool) (E : Int) (w : World) (e : Ending) (w' : World) : Prop := e = .returned (.tuple #[.bool b, .int .i64 E]) ∧ Below w.heap.size w w'
theorem all_pp {p : PP → Bool} {L : List PP} (h : ∀ j, j < L.length → p (L.getD j ppZ) = true) : L.all p = true := by
  rw [List.all_eq_true]
  intro x hx
  obtain ⟨i, hi, rfl⟩ := List.getElem_of_mem hx
  have := h i hi
  rw [List.getD_eq_getElem?_getD, List.getElem?_eq_getElem hi] at this
  exact this
theorem not_all_pp {p : PP → Bool} {L : List PP} {k : Nat} (hk : k < L.length) (h : p (L.getD k ppZ) = false) : L.all p = false := by
  rw [Bool.eq_false_iff]
  intro hc
  have h1 := List.all_eq_true.1 hc (L.getD k ppZ) (by rw [List.getD_eq_getElem?_getD, List.getElem?_eq_getElem hk]; exact List.getElem_mem hk)
  rw [h] at h1
  cases h1
theorem jonL_le (o : List (List Pn)) : (jonL o).length ≤ totN o := by
  rw [← jonA_all]
  exact jonA_le o (Nat.le_refl _)
theorem apaL_le {o : List (List Pn)} (h : o.length ≤ 100) : (apaL o).length ≤ 10000 := by
  rw [← apaA_all]
  exact apaA_le o (Nat.le_refl _) h
set_option maxRecDepth 100000 in
set_option maxHeartbeats 8000000 in
theorem Passed_any (x : List Bool) (Ax : Option Addr) (qx : Nat) (As : Option Addr) (qs : Nat) (ts : List Int) (A0 A1 A2 A3 A4 A5 : Option Addr) (q0 q1 q2 q3 q4 q5 : Nat) (l : Lo) (w : World) (hs : SizedL l) (hm : ts.length ≤ maxLen) (h : LoA w w.heap.size A0 A1 A2 A3 A4 A5 q0 q1 q2 q3 q4 q5 l) (hx : Bols w w.heap.size (.slice Ax x.length qx) x) (hv : Ints w w.heap.size (.slice As ts.length qs) ts) :
    Calls Tryz.prog 48 #[.agg #[.slice A0 l.m.opts.length q0, .slice A1 l.m.rules.length q1, .slice A2 l.ss.length q2, .slice A3 l.us.length q3, .slice A4 l.ps.length q4, .slice A5 l.ws.length q5], .slice Ax x.length qx, .slice As ts.length qs] w (PasP (pasV l x ts) (pasE l x ts) w) := by
  have H := hide h
  have HS := hide hs
  have HX := hide hx
  have HV := hide hv
  have HM := hide hm
  obtain ⟨er, her⟩ : ∃ z, copE l x = z := ⟨_, rfl⟩
  have HPR : Hid (∀ W, Below w.heap.size w W → Calls Tryz.prog 45 #[.agg #[.slice A0 l.m.opts.length q0, .slice A1 l.m.rules.length q1, .slice A2 l.ss.length q2, .slice A3 l.us.length q3, .slice A4 l.ps.length q4, .slice A5 l.ws.length q5], .slice Ax x.length qx] W (PrbE er (prbJ l x) (prbA l x) W)) := fun W hW => by
    have h1 := Probes_any x Ax qx A0 A1 A2 A3 A4 A5 q0 q1 q2 q3 q4 q5 l W hs (h.up hW) (Sl.up hx hW)
    rw [her] at h1
    exact h1
  clear h hs hx hv hm
  by_cases h0 : er = 0
  case neg =>
    have hE : pasE l x ts = er := by unfold pasE; rw [her, if_neg h0]
    have hL : pasV l x ts = false := by unfold pasV; rw [hE, if_neg h0]
    rw [hE, hL]
    have g1 : (er != 0) = true := by simpa using h0
    clear her h0 hE hL
    go_enter Tryz.func48, Tryz.ntmps48
    go_upto_region 1 with (fail)
    generalize hw0 : World.alloc _ _ = w0
    obtain ⟨hb0, hB0, hs0⟩ := alloc1 hw0
    have HB0 := hide hB0
    have c0 := cellOf hb0 0; have c1 := cellOf hb0 1; have c2 := cellOf hb0 2; have c3 := cellOf hb0 3; have c4 := cellOf hb0 4; have c5 := cellOf hb0 5
    have hlb := box_lt hb0
    clear hw0 hb0 hB0 hs0
    go_wp2_with (go_at_call 45; refine (HPR.out _ HB0.out).mono ?_; rintro e w1 ⟨jv, av, rfl, hj1, ha1, hB1⟩; have HB1 := hide (Below.to HB0.out hB1 (Nat.le_refl _)); clear hj1 ha1 hB1 c0 c1 c2 c3 c4 c5 hlb)
    go_ret2
    exact ⟨rfl, HB1.out⟩
  case pos =>
  subst h0
  have g0 : ((0 : Int) != 0) = false := by decide
  obtain ⟨ec, hec⟩ : ∃ z, chkE l ts = z := ⟨_, rfl⟩
  have HEC := hide hec
  have hE : pasE l x ts = ec := by unfold pasE; rw [her, if_pos rfl, hec]
  obtain ⟨ok, hxl⟩ := copE_ok her
  have OK := hide ok
  have HXL := hide hxl
  have h60 := ok.w60
  have hpJ : prbJ l x = jonL (prbN l x) := by unfold prbJ; rw [her, if_pos rfl]
  have hpA : prbA l x = apaL (prbN l x) := by unfold prbA; rw [her, if_pos rfl]
  have HPJ := hide hpJ
  have HPA := hide hpA
  have hb60 : (belL l x).length ≤ 60 := Nat.le_trans (belK_le l x _) h60
  have HNF := hide (net_facts (es := esL l (belL l x)) (by unfold esL; rw [List.length_map]; exact hb60))
  have hin : Hid (∀ i ∈ belL l x, i < l.ws.length) := fun i hi => (belL_lt hi).1
  have hb100 : Hid ((belL l x).length ≤ 100) := by show _ ≤ _; omega
  have hw1000 : Hid (l.ws.length ≤ 1000) := by show _ ≤ _; omega
  by_cases h0 : ec = 0
  case neg =>
    have hL : pasV l x ts = false := by unfold pasV; rw [hE, if_neg h0]
    rw [hE, hL]
    have g1 : (ec != 0) = true := by simpa using h0
    clear her h0 hE hL hec ok hxl hpJ hpA hb60
    go_enter Tryz.func48, Tryz.ntmps48
    go_upto_region 1 with (fail)
    generalize hw0 : World.alloc _ _ = w0
    obtain ⟨hb0, hB0, hs0⟩ := alloc1 hw0
    have HL0 : Hid (LoBox w0 w.heap.size A0 A1 A2 A3 A4 A5 q0 q1 q2 q3 q4 q5 l) := hb0
    have HB0 := hide hB0
    have c0 := cellOf hb0 0; have c1 := cellOf hb0 1; have c2 := cellOf hb0 2; have c3 := cellOf hb0 3; have c4 := cellOf hb0 4; have c5 := cellOf hb0 5
    have hlb := box_lt hb0
    clear hw0 hb0 hB0 hs0
    go_upto_region 4 with (go_at_call 45; refine (HPR.out _ HB0.out).mono ?_; rintro e w1 ⟨jv, av, rfl, hj1, ha1, hB1⟩; have HL1 := hide (HL0.out.to hB1); have HJ1 := hide hj1; have HA1 := hide ha1; have HB1 := hide (Below.to HB0.out hB1 (Nat.le_refl _)); clear hj1 ha1 hB1 c0 c1 c2 c3 c4 c5 hlb)
    have d0 := cellOf HL1.out 0; have d1 := cellOf HL1.out 1; have d2 := cellOf HL1.out 2; have d3 := cellOf HL1.out 3; have d4 := cellOf HL1.out 4; have d5 := cellOf HL1.out 5
    have hld := box_lt HL1.out
    go_wp2_with (go_at_call 112; refine (checkWires_any As qs ts A0 A1 A2 A3 A4 A5 q0 q1 q2 q3 q4 q5 l _ HS.out.w HM.out (H.out.up HB1.out) (Ints.up HV.out HB1.out)).mono ?_; rw [HEC.out]; rintro e w2 ⟨rfl, hB2⟩; have HB2 := hide (Below.to HB1.out hB2 (Nat.le_refl _)); clear hB2 d0 d1 d2 d3 d4 d5 hld)
    go_ret2
    exact ⟨rfl, HB2.out⟩
  case pos =>
  subst h0
  have hL : pasV l x ts = pasB (prbN l x) (netL (esL l (ts.map Int.toNat))) := by unfold pasV; rw [hE, if_pos rfl]
  rw [hE, hL]
  have HTN := hide (ts_nat hec)
  have HT0 : Hid (∀ t ∈ ts, 0 ≤ t) := fun t ht => ((chkE_zero hec).2 t ht).1
  have HQF := hide (net_facts (es := esL l (ts.map Int.toNat)) (by unfold esL; rw [List.length_map]; exact HTN.out.2))
  have HQI := hide (netL_i (esL l (ts.map Int.toNat)))
  obtain ⟨Q, hQ⟩ : ∃ z, netL (esL l (ts.map Int.toNat)) = z := ⟨_, rfl⟩
  obtain ⟨o, ho⟩ : ∃ z, prbN l x = z := ⟨_, rfl⟩
  have HNL : Hid (netL (esL l (belL l x)) = o) := ho
  rw [hQ] at HQF HQI ⊢
  rw [show netL (esL l (belL l x)) = o from ho] at HNF
  rw [ho] at HPJ HPA ⊢
  have HQ := hide hQ
  have hql : Q.length ≤ 100000 := by have := HQF.out.1; omega
  have hjl : (jonL o).length ≤ 1000 := Nat.le_trans (jonL_le o) HNF.out.2.1
  have hal : (apaL o).length ≤ 10000 := apaL_le HNF.out.1
  obtain ⟨J, hJ⟩ : ∃ z, jonL o = z := ⟨_, rfl⟩
  obtain ⟨A, hA⟩ : ∃ z, apaL o = z := ⟨_, rfl⟩
  obtain ⟨r, hr⟩ : ∃ z, pasB o Q = z := ⟨_, rfl⟩
  have HR : Hid (r = (J.all (fun p => conB Q p.1 p.2) && A.all fun p => !conB Q p.1 p.2)) := by show _ = _; rw [← hr, ← hJ, ← hA]; rfl
  rw [hr]
  rw [hJ] at hjl HPJ
  rw [hA] at hal HPA
  have HJO := hide hJ
  have HAO := hide hA
  clear her hE hL hec ok hxl hpJ hpA hb60 hQ ho hr hJ hA
  go_enter Tryz.func48, Tryz.ntmps48
  go_upto_region 1 with (fail)
  generalize hw0 : World.alloc _ _ = w0
  obtain ⟨hb0, hB0, hs0⟩ := alloc1 hw0
  have HL0 : Hid (LoBox w0 w.heap.size A0 A1 A2 A3 A4 A5 q0 q1 q2 q3 q4 q5 l) := hb0
  have HB0 := hide hB0
  have c0 := cellOf hb0 0; have c1 := cellOf hb0 1; have c2 := cellOf hb0 2; have c3 := cellOf hb0 3; have c4 := cellOf hb0 4; have c5 := cellOf hb0 5
  have hlb := box_lt hb0
  clear hw0 hb0 hB0 hs0
  go_upto_region 4 with (go_at_call 45; refine (HPR.out _ HB0.out).mono ?_; rintro e w1 ⟨jv, av, rfl, hj1, ha1, hB1⟩; have HL1 := hide (HL0.out.to hB1); have HJ1 := hide hj1; have HA1 := hide ha1; have HB1 := hide (Below.to HB0.out hB1 (Nat.le_refl _)); clear hj1 ha1 hB1 c0 c1 c2 c3 c4 c5 hlb)
  have d0 := cellOf HL1.out 0; have d1 := cellOf HL1.out 1; have d2 := cellOf HL1.out 2; have d3 := cellOf HL1.out 3; have d4 := cellOf HL1.out 4; have d5 := cellOf HL1.out 5
  have hld := box_lt HL1.out
  go_upto_region 7 with (go_at_call 112; refine (checkWires_any As qs ts A0 A1 A2 A3 A4 A5 q0 q1 q2 q3 q4 q5 l _ HS.out.w HM.out (H.out.up HB1.out) (Ints.up HV.out HB1.out)).mono ?_; rw [HEC.out]; rintro e w2 ⟨rfl, hB2⟩; have HL2 := hide (HL1.out.to hB2); have HB2 := hide (Below.to HB1.out hB2 (Nat.le_refl _)); have HJ2 := hide (HJ1.out.up hB2); have HA2 := hide (HA1.out.up hB2); clear hB2 d0 d1 d2 d3 d4 d5 hld)
  have f0 := cellOf HL2.out 0; have f1 := cellOf HL2.out 1; have f2 := cellOf HL2.out 2; have f3 := cellOf HL2.out 3; have f4 := cellOf HL2.out 4; have f5 := cellOf HL2.out 5
  have hlf := box_lt HL2.out
  have hn60 : (ts.map Int.toNat).length ≤ 100 := by have := HTN.out.2; omega
  go_upto_region 8 with (go_at_call 113; refine (nets_any (ts.map Int.toNat) _ A0 A1 A2 A3 A4 A5 q0 q1 q2 q3 q4 q5 l _ (H.out.up HB2.out) HTN.out.1 hn60 hw1000.out (Ints.nods (Ints.up HV.out HB2.out) HT0.out)).mono ?_; rw [HQ.out]; rintro e w3 ⟨v3, vs3, rfl, hN3, hB3⟩; have HN3 := hide hN3; have HJ3 := hide (HJ2.out.up hB3); have HA3 := hide (HA2.out.up hB3); have HB3 := hide (Below.to HB2.out hB3 (Nat.le_refl _)); clear hN3 hB3 f0 f1 f2 f3 f4 f5 hlf)
  rw [HPJ.out] at HJ3
  rw [HPA.out] at HA3
  obtain ⟨W3, hW3⟩ : ∃ wo : World, wo = w3 := ⟨_, rfl⟩
  subst hW3
  obtain ⟨Aj, qj, e1⟩ := HJ3.out.form
  subst e1
  obtain ⟨Aa, qa, e1⟩ := HA3.out.form
  subst e1
  have hBn : Hid (W3.heap.size ≤ W3.heap.size) := Nat.le_refl _
  go_wp2_with fail
  go_loopw [38] (fun kv wr => ∃ k : Nat, kv = .int .i64 k ∧ k ≤ J.length ∧ Hid (∀ j, j < k → conB Q (J.getD j ppZ).1 (J.getD j ppZ).2 = true) ∧ Hid (Below W3.heap.size W3 wr)) (fun kv _ => J.length - (intOf kv).toNat)
  case atStart => exact ⟨0, rfl, Nat.zero_le _, fun j hj => by omega, Below.refl _ _⟩
  case round =>
    obtain ⟨k, rfl, hk, hz, HW⟩ := hrel
    by_cases hlt : k < J.length
    case pos =>
      have hlt1 : (k : Int) < (J.length : Int) := by omega
      have ik0 : (0 : Int) ≤ (k : Int) := by omega
      obtain ⟨b, off, p, HP, hAj, hbb, hq, e0, e1, e2, e3⟩ := (HJ3.out.up HW.out).at hlt
      subst hAj
      have iq : (J.length : Int) ≤ (qj : Int) := by omega
      obtain ⟨c, hc⟩ : ∃ c, conB Q p.1 p.2 = c := ⟨_, rfl⟩
      have HC := hide hc
      clear hc hq
      go_upto_region 11 with (fail)
      generalize hw6 : World.alloc _ _ = w6
      obtain ⟨hb6, hB6, hs6⟩ := alloc1 hw6
      have HB6 := hide (Below.to HW.out hB6 (Nat.le_refl _))
      have HCN := hide (connected_any p.1 p.2 Q vs3 _ _ _ w6 (HN3.out.below (Nat.le_refl _) (Below.trans (Below.refl _ _) HB6.out)) hql HB6.out.size c HC.out)
      have z0 := cellOf hb6 0
      have z1 := cellOf hb6 1
      have z2 := cellOf hb6 2
      have z3 := cellOf hb6 3
      have lz := box_lt hb6
      clear hw6 hb6 hB6 hs6 e0 e1 e2 e3 hbb
      cases c with
      | true =>
        go_wp2_with (go_at_call 116; refine HCN.out.mono ?_; rintro e w7 ⟨rfl, hB7⟩; have HB7 := hide (Below.to HB6.out hB7 (Nat.le_refl _)); clear hB7 z0 z1 z2 z3 lz)
        go_roundw
        case rel => exact ⟨k + 1, by go_num, by omega, fun j hj => by
          rcases Nat.lt_or_ge j k with h | h
          · exact hz.out j h
          · rw [show j = k from by omega, HP.out]; exact HC.out, HB7.out⟩
        case measure => simp [intOf]; omega
      | false =>
        have hrf : r = false := by
          rw [HR.out, not_all_pp hlt (by rw [HP.out]; exact HC.out), Bool.false_and]
        subst hrf
        go_wp2_with (go_at_call 116; refine HCN.out.mono ?_; rintro e w7 ⟨rfl, hB7⟩; have HB7 := hide (Below.to HB6.out hB7 (Nat.le_refl _)); clear hB7 z0 z1 z2 z3 lz)
        go_ret2
        exact ⟨rfl, Below.trans HB3.out (HB7.out.mono HB3.out.size)⟩
    case neg =>
      have hlt1 : ¬ (k : Int) < (J.length : Int) := by omega
      have HJA : Hid (J.all (fun p => conB Q p.1 p.2) = true) := all_pp fun j hj => hz.out j (by omega)
      obtain ⟨W4, hW4⟩ : ∃ wo : World, wo = wr := ⟨_, rfl⟩
      subst hW4
      have HA4 := hide (HA3.out.up HW.out)
      have HN4 := hide (HN3.out.below (Nat.le_refl _) HW.out)
      have HS4 : Hid (W3.heap.size ≤ W4.heap.size) := HW.out.size
      go_wp2_with fail
      go_loopw [52] (fun kv wr => ∃ k : Nat, kv = .int .i64 k ∧ k ≤ A.length ∧ Hid (∀ j, j < k → (!conB Q (A.getD j ppZ).1 (A.getD j ppZ).2) = true) ∧ Hid (Below W4.heap.size W4 wr)) (fun kv _ => A.length - (intOf kv).toNat)
      case atStart => exact ⟨0, rfl, Nat.zero_le _, fun j hj => by omega, Below.refl _ _⟩
      case round =>
        obtain ⟨k, rfl, hk, hz2, HW2⟩ := hrel
        by_cases hlt2 : k < A.length
        case pos =>
          have hlt1 : (k : Int) < (A.length : Int) := by omega
          have ik0 : (0 : Int) ≤ (k : Int) := by omega
          obtain ⟨b, off, p, HP, hAj, hbb, hq, e0, e1, e2, e3⟩ := (HA4.out.up HW2.out).at hlt2
          subst hAj
          have iq : (A.length : Int) ≤ (qa : Int) := by omega
          obtain ⟨c, hc⟩ : ∃ c, conB Q p.1 p.2 = c := ⟨_, rfl⟩
          have HC := hide hc
          clear hc hq
          go_upto_region 17 with (fail)
          generalize hw6 : World.alloc _ _ = w6
          obtain ⟨hb6, hB6, hs6⟩ := alloc1 hw6
          have HB6 := hide (Below.to HW2.out hB6 (Nat.le_refl _))
          have HCN := hide (connected_any p.1 p.2 Q vs3 _ _ _ w6 (HN4.out.below HS4.out HB6.out) hql (Nat.le_trans HS4.out HB6.out.size) c HC.out)
          have z0 := cellOf hb6 0
          have z1 := cellOf hb6 1
          have z2 := cellOf hb6 2
          have z3 := cellOf hb6 3
          have lz := box_lt hb6
          clear hw6 hb6 hB6 hs6 e0 e1 e2 e3 hbb
          cases c with
          | false =>
            go_wp2_with (go_at_call 116; refine HCN.out.mono ?_; rintro e w7 ⟨rfl, hB7⟩; have HB7 := hide (Below.to HB6.out hB7 (Nat.le_refl _)); clear hB7 z0 z1 z2 z3 lz)
            go_roundw
            case rel => exact ⟨k + 1, by go_num, by omega, fun j hj => by
              rcases Nat.lt_or_ge j k with h | h
              · exact hz2.out j h
              · rw [show j = k from by omega, HP.out, HC.out]; rfl, HB7.out⟩
            case measure => simp [intOf]; omega
          | true =>
            have hrf : r = false := by
              rw [HR.out, not_all_pp hlt2 (by rw [HP.out, HC.out]; rfl), Bool.and_false]
            subst hrf
            go_wp2_with (go_at_call 116; refine HCN.out.mono ?_; rintro e w7 ⟨rfl, hB7⟩; have HB7 := hide (Below.to HB6.out hB7 (Nat.le_refl _)); clear hB7 z0 z1 z2 z3 lz)
            go_ret2
            exact ⟨rfl, Below.trans HB3.out ((Below.to HW.out HB7.out (Nat.le_refl _)).mono HB3.out.size)⟩
        case neg =>
          have hlt1 : ¬ (k : Int) < (A.length : Int) := by omega
          have hrt : r = true := by
            rw [HR.out, HJA.out, all_pp fun j hj => hz2.out j (by omega)]
            rfl
          subst hrt
          go_wp2_with fail
          go_ret2
          exact ⟨rfl, Below.trans HB3.out ((Below.to HW.out HW2.out (Nat.le_refl _)).mono HB3.out.size)⟩
end Go.Proofs.YtehadoecnmfeoaaGreat
/- Whether two pins are in one net (the law's own): walk. -/
namespace Go.Proofs.YtehadoecnmfeoaaGreat
open Go.RowKit
set_option linter.unusedVariables false
set_option linter.unusedSimpArgs false
def hasK (net : List Pn) (a : Pn) (k : Nat) : Bool := (net.take k).contains a
theorem hasK_zero (net : List Pn) (a : Pn) : hasK net a 0 = false := by simp [hasK]
theorem hasK_succ {net : List Pn} {a : Pn} {k : Nat} (hk : k < net.length) : hasK net a (k + 1) = (hasK net a k || net.getD k (0, 0) == a) := by
  unfold hasK
  have e : net.getD k (0, 0) = net[k] := by rw [List.getD_eq_getElem?_getD, List.getElem?_eq_getElem hk]; rfl
  rw [List.take_add_one, List.getElem?_eq_getElem hk, e, Bool.eq_iff_iff, List.contains_iff_mem, Bool.or_eq_true, List.contains_iff_mem, List.mem_append, beq_iff_eq]
  constructor
  · rintro (h | h)
    · exact .inl h
    · exact .inr (List.mem_singleton.1 h).symm
  · rintro (h | h)
    · exact .inl h
    · exact .inr (List.mem_singleton.2 h.symm)
theorem hasK_all (net : List Pn) (a : Pn) : hasK net a net.length = net.contains a := by
  unfold hasK
  rw [List.take_length]
set_option maxRecDepth 100000 in
set_option maxHeartbeats 4000000 in
theorem together_any (a b : Pn) (o : List (List Pn)) (vs : List Value) (v : Value) (b0 B : Nat) (w : World) (hn : NetS w b0 B v o vs) (hN : o.length ≤ 100000) (hB : B ≤ w.heap.size) (r : Bool) (hr : conB o a b = r) :
    Calls Tryz.prog 50 #[v, .agg #[.int .i64 a.1, .int .i64 a.2], .agg #[.int .i64 b.1, .int .i64 b.2]] w fun e w' => e = .returned (.bool r) ∧ Below w.heap.size w w' := by
  obtain ⟨A, q, rfl⟩ := owns_form hn.own
  have HS := hide hn
  have HR := hide hr
  have HBW := hide hB
  clear hn hr hB
  go_enter Tryz.func50, Tryz.ntmps50
  go_upto_region 1 with (fail)
  generalize hw0 : World.alloc _ _ = w0
  obtain ⟨hb0, hb1, hB0, hs0⟩ := alloc2 hw0
  have HB0 := hide hB0
  obtain ⟨pa, hpa⟩ : ∃ z, w.heap.size = z := ⟨_, rfl⟩
  obtain ⟨pb, hpb⟩ : ∃ z, w.heap.size + 1 = z := ⟨_, rfl⟩
  rw [hpb] at hb1 ⊢
  rw [hpa] at hb0 ⊢
  have HA0 := hide hb0
  have HC0 := hide hb1
  have HS0 := hide (HS.out.below HBW.out hB0)
  have HBZ : Hid (B ≤ w0.heap.size) := Nat.le_trans HBW.out hB0.size
  have HPA := hide hpa
  clear hw0 hb0 hb1 hB0 hs0 hpa hpb
  obtain ⟨W0, hW0⟩ : ∃ wo : World, wo = w0 := ⟨_, rfl⟩
  subst hW0
  go_wp2_with fail
  go_loopw [7] (fun iv wr => ∃ i : Nat, iv = .int .i64 i ∧ i ≤ o.length ∧ Hid (∀ j, j < i → conP a b (o.getD j []) = false) ∧ Hid (Below W0.heap.size W0 wr)) (fun iv _ => o.length - (intOf iv).toNat)
  case atStart => exact ⟨0, rfl, Nat.zero_le _, fun j hj => by omega, Below.refl _ _⟩
  case round =>
    obtain ⟨i, rfl, hi, hz, HW⟩ := hrel
    by_cases hlt : i < o.length
    case neg =>
      have hlt1 : ¬ (i : Int) < (o.length : Int) := by omega
      have hrf : r = false := by
        rw [← HR.out, Bool.eq_false_iff]
        intro hc
        obtain ⟨net, hnet, h1, h2⟩ := conB_iff.1 hc
        obtain ⟨j, hj, e⟩ := List.getElem_of_mem hnet
        have h3 := hz.out j (by omega)
        rw [List.getD_eq_getElem?_getD, List.getElem?_eq_getElem hj] at h3
        have h4 : conP a b o[j] = false := h3
        rw [e] at h4
        unfold conP at h4
        rw [List.contains_iff_mem.2 h1, List.contains_iff_mem.2 h2] at h4
        cases h4
      subst hrf
      go_wp2_with fail
      go_ret
      exact ⟨rfl, Below.trans HB0.out (HW.out.mono HB0.out.size)⟩
    case pos =>
      have hlt1 : (i : Int) < (o.length : Int) := by omega
      have ii0 : (0 : Int) ≤ (i : Int) := by omega
      obtain ⟨net, hnet⟩ : ∃ z, o.getD i [] = z := ⟨_, rfl⟩
      have HNT := hide hnet
      have HLT := hide hlt
      have hsm := HS0.out.small i hlt
      rw [hnet] at hsm
      clear hnet
      go_wp2_with fail
      go_loopw [8, 9, 10] (fun xv yv kv wr => ∃ k : Nat, xv = .bool (hasK net a k) ∧ yv = .bool (hasK net b k) ∧ kv = .int .i64 k ∧ k ≤ net.length ∧ Hid (Below W0.heap.size W0 wr)) (fun _ _ kv _ => net.length - (intOf kv).toNat)
      case atStart => exact ⟨0, by rw [hasK_zero], by rw [hasK_zero], rfl, Nat.zero_le _, HW.out⟩
      case round =>
        obtain ⟨k, rfl, rfl, rfl, hk, HW1⟩ := hrel
        obtain ⟨x, hx⟩ : ∃ z, hasK net a k = z := ⟨_, rfl⟩
        obtain ⟨y, hy⟩ : ∃ z, hasK net b k = z := ⟨_, rfl⟩
        rw [hx, hy]
        have HXE := hide hx
        have HYE := hide hy
        have hS := HS0.out.below HBZ.out HW1.out
        obtain ⟨g, Ai, qi, net', HNT', hA, lg, hq, hnl, hvi, cg, hpn⟩ := hS.at HLT.out
        have hne : net = net' := HNT.out.symm.trans HNT'.out
        subst hne
        subst hA
        have HPN := hide hpn
        have iq : (o.length : Int) ≤ (q : Int) := by omega
        clear hx hy hS hvi hpn hnl hq
        by_cases hkl : k < net.length
        case neg =>
          have hkl1 : ¬ (k : Int) < (net.length : Int) := by omega
          have hkn : Hid (k = net.length) := by show _ = _; omega
          have hcx : Hid (net.contains a = x) := by show _ = _; rw [← HXE.out, hkn.out, hasK_all]
          have hcy : Hid (net.contains b = y) := by show _ = _; rw [← HYE.out, hkn.out, hasK_all]
          cases x with
          | true =>
            cases y with
            | true =>
              have hrt : r = true := by
                rw [← HR.out, conB_iff]
                refine ⟨net, ?_, List.contains_iff_mem.1 hcx.out, List.contains_iff_mem.1 hcy.out⟩
                rw [← HNT.out, List.getD_eq_getElem?_getD, List.getElem?_eq_getElem HLT.out]
                exact List.getElem_mem HLT.out
              subst hrt
              go_wp2_with fail
              go_ret
              exact ⟨rfl, Below.trans HB0.out (HW1.out.mono HB0.out.size)⟩
            | false =>
              go_wp2_with fail
              go_roundw
              case rel => exact ⟨i + 1, by go_num, by have := HLT.out; omega, fun j hj => by
                rcases Nat.lt_or_ge j i with h | h
                · exact hz.out j h
                · rw [show j = i from by omega, HNT.out]; unfold conP; rw [hcx.out, hcy.out]; rfl, HW1⟩
              case measure => simp [intOf]; have := HLT.out; omega
          | false =>
            go_wp2_with fail
            go_roundw
            case rel => exact ⟨i + 1, by go_num, by have := HLT.out; omega, fun j hj => by
              rcases Nat.lt_or_ge j i with h | h
              · exact hz.out j h
              · rw [show j = i from by omega, HNT.out]; unfold conP; rw [hcx.out]; rfl, HW1⟩
            case measure => simp [intOf]; have := HLT.out; omega
        case pos =>
          have hkl1 : (k : Int) < (net.length : Int) := by omega
          have ik0 : (0 : Int) ≤ (k : Int) := by omega
          obtain ⟨x', hx'⟩ : ∃ z, hasK net a (k + 1) = z := ⟨_, rfl⟩
          obtain ⟨y', hy'⟩ : ∃ z, hasK net b (k + 1) = z := ⟨_, rfl⟩
          have hxs := hasK_succ (a := a) hkl
          have hys := hasK_succ (a := b) hkl
          rw [HXE.out, hx'] at hxs
          rw [HYE.out, hy'] at hys
          have HX' := hide hx'
          have HY' := hide hy'
          have HXS := hide hxs
          have HYS := hide hys
          have HKL := hide hkl
          clear hx' hy' hxs hys
          go_upto_region 8 with (fail)
          go_cut [8] from 26 to 37 (fun xv wc => xv = .bool x' ∧ Hid (Below wr.heap.size wr wc))
          case first =>
            obtain ⟨b8, off, p, HP, hA, hbb, hq, e0, e1⟩ := HPN.out.at8 HKL.out
            subst hA
            have HXr := hide (box_to HA0.out HW1.out)
            have z0 := cellOf HXr.out 0
            have z1 := cellOf HXr.out 1
            have lz := box_lt HXr.out
            have iqn : (net.length : Int) ≤ (qi : Int) := by omega
            have he := fun w => pinEq p.1 p.2 a.1 a.2 w
            clear hq
            cases x with
            | true =>
              have h1 := HXS.out
              rw [Bool.true_or] at h1
              subst h1
              refine wp_region_held_drew (S := (fun w' => Below wr.heap.size wr w')) (by kernel_rfl) ?_ (fun hHeld => ?_)
              · try dsimp only
                exact (by repeat (first | exact Below.refl _ _ | assumption | refine Below.drew ?_ | refine Below.drewN ?_ _ | refine Below.allocT ?_ (Nat.le_refl _) _ | refine Below.setCell ?_ (by simp <;> omega) _ | refine Below.to ?_ (by assumption) (Nat.le_refl _)))
              refine zT 0 rfl ?_
              refine zT 1 rfl ?_
              refine zS 2 rfl ?_
              refine zS 3 rfl ?_
              refine zS 4 rfl ?_
              refine zS 5 rfl ?_
              refine zS 6 rfl ?_
              refine zS 7 rfl ?_
              refine zS 8 rfl ?_
              refine zS 9 rfl ?_
              refine zS 10 rfl ?_
              refine zT 11 rfl ?_
              refine zT 12 rfl ?_
              refine wpAnyH_done (by kernel_rfl) ?_ _
              go_wp2_with fail
              go_meet
              case rel => exact ⟨rfl, hHeld⟩
            | false =>
              have h1 := HXS.out
              rw [HP.out, Bool.false_or] at h1
              by_cases hpa : p = a
              · have he1 : (p.1 == a.1 && p.2 == a.2) = true := by rw [hpa]; simp
                rw [he1] at he
                have h2 : x' = true := by rw [h1, hpa]; simp
                subst h2
                clear h1 hpa he1
                refine wp_region_held_drew (S := (fun w' => Below wr.heap.size wr w')) (by kernel_rfl) ?_ (fun hHeld => ?_)
                · try dsimp only
                  exact (by repeat (first | exact Below.refl _ _ | assumption | refine Below.drew ?_ | refine Below.drewN ?_ _ | refine Below.allocT ?_ (Nat.le_refl _) _ | refine Below.setCell ?_ (by simp <;> omega) _ | refine Below.to ?_ (by assumption) (Nat.le_refl _)))
                refine zT 0 rfl ?_
                refine zT 1 rfl ?_
                refine zT 2 rfl ?_
                refine zT 3 rfl ?_
                refine zT 4 rfl ?_
                refine zT 5 rfl ?_
                refine zT 6 rfl ?_
                refine zT 7 rfl ?_
                refine zT 8 rfl ?_
                refine zT 9 rfl ?_
                refine zT 10 rfl ?_
                refine zT 11 rfl ?_
                refine zT 12 rfl ?_
                refine wpAnyH_done (by kernel_rfl) ?_ _
                go_wp2_with fail
                go_meet
                case rel => exact ⟨rfl, hHeld⟩
              · have he1 : (p.1 == a.1 && p.2 == a.2) = false := by
                  rw [Bool.eq_false_iff]
                  intro h
                  rw [Bool.and_eq_true, beq_iff_eq, beq_iff_eq] at h
                  exact hpa (Prod.ext h.1 h.2)
                rw [he1] at he
                have h2 : x' = false := by rw [h1]; simpa using hpa
                subst h2
                clear h1 hpa he1
                refine wp_region_held_drew (S := (fun w' => Below wr.heap.size wr w')) (by kernel_rfl) ?_ (fun hHeld => ?_)
                · try dsimp only
                  exact (by repeat (first | exact Below.refl _ _ | assumption | refine Below.drew ?_ | refine Below.drewN ?_ _ | refine Below.allocT ?_ (Nat.le_refl _) _ | refine Below.setCell ?_ (by simp <;> omega) _ | refine Below.to ?_ (by assumption) (Nat.le_refl _)))
                refine zT 0 rfl ?_
                refine zT 1 rfl ?_
                refine zT 2 rfl ?_
                refine zT 3 rfl ?_
                refine zT 4 rfl ?_
                refine zT 5 rfl ?_
                refine zT 6 rfl ?_
                refine zT 7 rfl ?_
                refine zT 8 rfl ?_
                refine zT 9 rfl ?_
                refine zT 10 rfl ?_
                refine zT 11 rfl ?_
                refine zT 12 rfl ?_
                refine wpAnyH_done (by kernel_rfl) ?_ _
                go_wp2_with fail
                go_meet
                case rel => exact ⟨rfl, hHeld⟩
          case rest =>
          obtain ⟨rfl, HWc⟩ := hcut
          have HWc2 := hide (Below.to HW1.out HWc.out (Nat.le_refl _))
          have HPNc := hide (HPN.out.up HWc.out)
          have cgc : wc.cell? ⟨g, i, none⟩ = some (.slice Ai net.length qi) := (HWc.out.cell (p := ⟨g, i, none⟩) lg).trans cg
          have lgc : g < wc.heap.size := Nat.lt_of_lt_of_le lg HWc.out.size
          clear cg lg
          go_upto_region 9 with (fail)
          obtain ⟨b8, off, p, HP, hA, hbb, hq, e0, e1⟩ := HPNc.out.at8 HKL.out
          subst hA
          have HXr := hide (box_to HC0.out HWc2.out)
          have z0 := cellOf HXr.out 0
          have z1 := cellOf HXr.out 1
          have lz := box_lt HXr.out
          have iqn : (net.length : Int) ≤ (qi : Int) := by omega
          have he := fun w => pinEq p.1 p.2 b.1 b.2 w
          clear hq
          cases y with
          | true =>
            have h1 := HYS.out
            rw [Bool.true_or] at h1
            subst h1
            refine wp_region_held_drew (S := (fun w' => Below wc.heap.size wc w')) (by kernel_rfl) ?_ (fun hHeld => ?_)
            · try dsimp only
              exact (by repeat (first | exact Below.refl _ _ | assumption | refine Below.drew ?_ | refine Below.drewN ?_ _ | refine Below.allocT ?_ (Nat.le_refl _) _ | refine Below.setCell ?_ (by simp <;> omega) _ | refine Below.to ?_ (by assumption) (Nat.le_refl _)))
            refine zT 0 rfl ?_
            refine zT 1 rfl ?_
            refine zS 2 rfl ?_
            refine zS 3 rfl ?_
            refine zS 4 rfl ?_
            refine zS 5 rfl ?_
            refine zS 6 rfl ?_
            refine zS 7 rfl ?_
            refine zS 8 rfl ?_
            refine zS 9 rfl ?_
            refine zS 10 rfl ?_
            refine zT 11 rfl ?_
            refine zT 12 rfl ?_
            refine wpAnyH_done (by kernel_rfl) ?_ _
            generalize hwd : World.drew _ = wd at hHeld ⊢
            have HWd2 := hide (Below.to HWc2.out hHeld (Nat.le_refl _))
            clear hwd hHeld cgc lgc e0 e1 z0 z1 lz hbb
            go_wp2_with fail
            go_roundw
            case rel => exact ⟨k + 1, by rw [HX'.out], by rw [HY'.out], by go_num, by have := HKL.out; omega, HWd2⟩
            case measure => simp [intOf]; have := HKL.out; omega
          | false =>
            have h1 := HYS.out
            rw [HP.out, Bool.false_or] at h1
            by_cases hpa : p = b
            · have he1 : (p.1 == b.1 && p.2 == b.2) = true := by rw [hpa]; simp
              rw [he1] at he
              have h2 : y' = true := by rw [h1, hpa]; simp
              subst h2
              clear h1 hpa he1
              refine wp_region_held_drew (S := (fun w' => Below wc.heap.size wc w')) (by kernel_rfl) ?_ (fun hHeld => ?_)
              · try dsimp only
                exact (by repeat (first | exact Below.refl _ _ | assumption | refine Below.drew ?_ | refine Below.drewN ?_ _ | refine Below.allocT ?_ (Nat.le_refl _) _ | refine Below.setCell ?_ (by simp <;> omega) _ | refine Below.to ?_ (by assumption) (Nat.le_refl _)))
              refine zT 0 rfl ?_
              refine zT 1 rfl ?_
              refine zT 2 rfl ?_
              refine zT 3 rfl ?_
              refine zT 4 rfl ?_
              refine zT 5 rfl ?_
              refine zT 6 rfl ?_
              refine zT 7 rfl ?_
              refine zT 8 rfl ?_
              refine zT 9 rfl ?_
              refine zT 10 rfl ?_
              refine zT 11 rfl ?_
              refine zT 12 rfl ?_
              refine wpAnyH_done (by kernel_rfl) ?_ _
              generalize hwd : World.drew _ = wd at hHeld ⊢
              have HWd2 := hide (Below.to HWc2.out hHeld (Nat.le_refl _))
              clear hwd hHeld cgc lgc e0 e1 z0 z1 lz hbb
              go_wp2_with fail
              go_roundw
              case rel => exact ⟨k + 1, by rw [HX'.out], by rw [HY'.out], by go_num, by have := HKL.out; omega, HWd2⟩
              case measure => simp [intOf]; have := HKL.out; omega
            · have he1 : (p.1 == b.1 && p.2 == b.2) = false := by
                rw [Bool.eq_false_iff]
                intro h
                rw [Bool.and_eq_true, beq_iff_eq, beq_iff_eq] at h
                exact hpa (Prod.ext h.1 h.2)
              rw [he1] at he
              have h2 : y' = false := by rw [h1]; simpa using hpa
              subst h2
              clear h1 hpa he1
              refine wp_region_held_drew (S := (fun w' => Below wc.heap.size wc w')) (by kernel_rfl) ?_ (fun hHeld => ?_)
              · try dsimp only
                exact (by repeat (first | exact Below.refl _ _ | assumption | refine Below.drew ?_ | refine Below.drewN ?_ _ | refine Below.allocT ?_ (Nat.le_refl _) _ | refine Below.setCell ?_ (by simp <;> omega) _ | refine Below.to ?_ (by assumption) (Nat.le_refl _)))
              refine zT 0 rfl ?_
              refine zT 1 rfl ?_
              refine zT 2 rfl ?_
              refine zT 3 rfl ?_
              refine zT 4 rfl ?_
              refine zT 5 rfl ?_
              refine zT 6 rfl ?_
              refine zT 7 rfl ?_
              refine zT 8 rfl ?_
              refine zT 9 rfl ?_
              refine zT 10 rfl ?_
              refine zT 11 rfl ?_
              refine zT 12 rfl ?_
              refine wpAnyH_done (by kernel_rfl) ?_ _
              generalize hwd : World.drew _ = wd at hHeld ⊢
              have HWd2 := hide (Below.to HWc2.out hHeld (Nat.le_refl _))
              clear hwd hHeld cgc lgc e0 e1 z0 z1 lz hbb
              go_wp2_with fail
              go_roundw
              case rel => exact ⟨k + 1, by rw [HX'.out], by rw [HY'.out], by go_num, by have := HKL.out; omega, HWd2⟩
              case measure => simp [intOf]; have := HKL.out; omega
end Go.Proofs.YtehadoecnmfeoaaGreat

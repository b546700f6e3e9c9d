/- Part 47 of this claim's texts: walks and plain laws. -/
import Derived.Test.YtehadoecnmfeoaaGreatRows
import Derived.Test.YtehadoecnmfeoaaGreatGBN46
import Derived.Laws.EntriesVeiled
import Derived.Deep.DeepMust
import Derived.Deep.RegionHeld3
import Derived.Deep.DrawnRows
import Derived.Test.YtehadoecnmfeoaaGreatGBN3
import Derived.ChangeKeysEq
set_option linter.unusedVariables false
set_option linter.unusedSimpArgs false
set_option linter.unusedSectionVars false
namespace Go.Proofs.YtehadoecnmfeoaaGreat
open Go.RowKit
set_option maxRecDepth 100000 in
set_option maxHeartbeats 8000000 in
theorem rPassed_any (x : List Bool) (Ax : Option Addr) (qx : Nat) (As : Option Addr) (qs : Nat) (ts : List Int) (A0 A1 A2 A3 A4 A5 : Option Addr) (q0 q1 q2 q3 q4 q5 : Nat) (l : Lo) (w : World) (hs : SizedL l) (hm : ts.length ≤ maxLen) (h : LoA w w.heap.size A0 A1 A2 A3 A4 A5 q0 q1 q2 q3 q4 q5 l) (hx : Bols w w.heap.size (.slice Ax x.length qx) x) (hv : Ints w w.heap.size (.slice As ts.length qs) ts) :
    Calls Tryz.prog 49 #[.agg #[.slice A0 l.m.opts.length q0, .slice A1 l.m.rules.length q1, .slice A2 l.ss.length q2, .slice A3 l.us.length q3, .slice A4 l.ps.length q4, .slice A5 l.ws.length q5], .slice Ax x.length qx, .slice As ts.length qs] w (PasP (pasV l x ts) (pasE l x ts) w) := by
  have H := hide h
  have HS := hide hs
  have HX := hide hx
  have HV := hide hv
  have HM := hide hm
  have HD0 : Hid (SizedD []) := ⟨by unfold maxLen; simp, fun d hd => by cases hd⟩
  obtain ⟨er, her⟩ : ∃ z, copE l x = z := ⟨_, rfl⟩
  have HER : Hid (pikE l [] x = er) := (pik_cop l x).trans her
  clear h hs hx hv hm
  by_cases h0 : er = 0
  case neg =>
    have hE : pasE l x ts = er := by unfold pasE; rw [her, if_neg h0]
    have hL : pasV l x ts = false := by unfold pasV; rw [hE, if_neg h0]
    rw [hE, hL]
    have g1 : (er != 0) = true := by simpa using h0
    clear her h0 hE hL
    go_enter Tryz.func49, Tryz.ntmps49
    go_upto_region 1 with (fail)
    generalize hw0 : World.alloc _ _ = w0
    obtain ⟨hb0, hB0, hs0⟩ := alloc1 hw0
    have HB0 := hide hB0
    obtain ⟨c0, c1, c2, c3, c4, c5⟩ := zL hb0
    have hlb := box_lt hb0
    clear hw0 hb0 hB0 hs0
    go_wp2_with (go_at_call 86; refine (rcheckVariant_any [] x none 0 Ax qx A0 A1 A2 A3 A4 A5 q0 q1 q2 q3 q4 q5 l _ HS.out HD0.out (H.out.up HB0.out) (Mods.nil _ _)).mono ?_; rw [HER.out]; rintro e w1 ⟨rfl, hB1⟩; have HB1 := hide (Below.to HB0.out hB1 (Nat.le_refl _)); clear hB1 c0 c1 c2 c3 c4 c5 hlb)
    go_ret2
    exact ⟨rfl, HB1.out⟩
  case pos =>
  subst h0
  have g0 : ((0 : Int) != 0) = false := by decide
  obtain ⟨ec, hec⟩ : ∃ z, chkE l ts = z := ⟨_, rfl⟩
  have HEC := hide hec
  have hE : pasE l x ts = ec := by unfold pasE; rw [her, if_pos rfl, hec]
  obtain ⟨ok, hxl⟩ := copE_ok her
  have OK := hide ok
  have HXL := hide hxl
  have h60 := ok.w60
  have hpJ : prbJ l x = jonL (prbN l x) := by unfold prbJ; rw [her, if_pos rfl]
  have hpA : prbA l x = apaL (prbN l x) := by unfold prbA; rw [her, if_pos rfl]
  have HPJ := hide hpJ
  have HPA := hide hpA
  have hb60 : (belL l x).length ≤ 60 := Nat.le_trans (belK_le l x _) h60
  have HNF := hide (net_facts (es := esL l (belL l x)) (by unfold esL; rw [List.length_map]; exact hb60))
  have hin : Hid (∀ i ∈ belL l x, i < l.ws.length) := fun i hi => (belL_lt hi).1
  have hb100 : Hid ((belL l x).length ≤ 100) := by show _ ≤ _; omega
  have hw1000 : Hid (l.ws.length ≤ 1000) := by show _ ≤ _; omega
  by_cases h0 : ec = 0
  case neg =>
    have hL : pasV l x ts = false := by unfold pasV; rw [hE, if_neg h0]
    rw [hE, hL]
    have g1 : (ec != 0) = true := by simpa using h0
    clear her h0 hE hL hec ok hxl hpJ hpA hb60
    go_enter Tryz.func49, Tryz.ntmps49
    go_upto_region 1 with (fail)
    generalize hw0 : World.alloc _ _ = w0
    obtain ⟨hb0, hB0, hs0⟩ := alloc1 hw0
    have HL0 : Hid (LoBox w0 w.heap.size A0 A1 A2 A3 A4 A5 q0 q1 q2 q3 q4 q5 l) := hb0
    have HB0 := hide hB0
    obtain ⟨c0, c1, c2, c3, c4, c5⟩ := zL hb0
    have hlb := box_lt hb0
    clear hw0 hb0 hB0 hs0
    go_upto_region 4 with (go_at_call 86; refine (rcheckVariant_any [] x none 0 Ax qx A0 A1 A2 A3 A4 A5 q0 q1 q2 q3 q4 q5 l _ HS.out HD0.out (H.out.up HB0.out) (Mods.nil _ _)).mono ?_; rw [HER.out]; rintro e w1 ⟨rfl, hB1⟩; have HL1 := hide (HL0.out.to hB1); have HB1 := hide (Below.to HB0.out hB1 (Nat.le_refl _)); clear hB1 c0 c1 c2 c3 c4 c5 hlb)
    obtain ⟨d0, d1, d2, d3, d4, d5⟩ := zL HL1.out
    have hld := box_lt HL1.out
    go_wp2_with (go_at_call 114; refine (rcheckWires_any As qs ts A0 A1 A2 A3 A4 A5 q0 q1 q2 q3 q4 q5 l _ HS.out.w HM.out (H.out.up HB1.out) (Ints.up HV.out HB1.out)).mono ?_; rw [HEC.out]; rintro e w2 ⟨rfl, hB2⟩; have HB2 := hide (Below.to HB1.out hB2 (Nat.le_refl _)); clear hB2 d0 d1 d2 d3 d4 d5 hld)
    go_ret2
    exact ⟨rfl, HB2.out⟩
  case pos =>
  subst h0
  have hL : pasV l x ts = pasB (prbN l x) (netL (esL l (ts.map Int.toNat))) := by unfold pasV; rw [hE, if_pos rfl]
  rw [hE, hL]
  have HTN := hide (ts_nat hec)
  have HT0 : Hid (∀ t ∈ ts, 0 ≤ t) := fun t ht => ((chkE_zero hec).2 t ht).1
  have HQF := hide (net_facts (es := esL l (ts.map Int.toNat)) (by unfold esL; rw [List.length_map]; exact HTN.out.2))
  have HQI := hide (netL_i (esL l (ts.map Int.toNat)))
  obtain ⟨Q, hQ⟩ : ∃ z, netL (esL l (ts.map Int.toNat)) = z := ⟨_, rfl⟩
  obtain ⟨o, ho⟩ : ∃ z, prbN l x = z := ⟨_, rfl⟩
  have HNL : Hid (netL (esL l (belL l x)) = o) := ho
  rw [hQ] at HQF HQI ⊢
  rw [show netL (esL l (belL l x)) = o from ho] at HNF
  rw [ho] at HPJ HPA ⊢
  have HQ := hide hQ
  have hql : Q.length ≤ 100000 := by have := HQF.out.1; omega
  have hjl : (jonL o).length ≤ 1000 := Nat.le_trans (jonL_le o) HNF.out.2.1
  have hal : (apaL o).length ≤ 10000 := apaL_le HNF.out.1
  obtain ⟨J, hJ⟩ : ∃ z, jonL o = z := ⟨_, rfl⟩
  obtain ⟨A, hA⟩ : ∃ z, apaL o = z := ⟨_, rfl⟩
  obtain ⟨r, hr⟩ : ∃ z, pasB o Q = z := ⟨_, rfl⟩
  have HR : Hid (r = (J.all (fun p => conB Q p.1 p.2) && A.all fun p => !conB Q p.1 p.2)) := by show _ = _; rw [← hr, ← hJ, ← hA]; rfl
  rw [hr]
  rw [hJ] at hjl HPJ
  rw [hA] at hal HPA
  have HJO := hide hJ
  have HAO := hide hA
  clear her hE hL hec ok hxl hpJ hpA hb60 hQ ho hr hJ hA
  go_enter Tryz.func49, Tryz.ntmps49
  go_upto_region 1 with (fail)
  generalize hw0 : World.alloc _ _ = w0
  obtain ⟨hb0, hB0, hs0⟩ := alloc1 hw0
  have HL0 : Hid (LoBox w0 w.heap.size A0 A1 A2 A3 A4 A5 q0 q1 q2 q3 q4 q5 l) := hb0
  have HB0 := hide hB0
  obtain ⟨c0, c1, c2, c3, c4, c5⟩ := zL hb0
  have hlb := box_lt hb0
  clear hw0 hb0 hB0 hs0
  go_upto_region 4 with (go_at_call 86; refine (rcheckVariant_any [] x none 0 Ax qx A0 A1 A2 A3 A4 A5 q0 q1 q2 q3 q4 q5 l _ HS.out HD0.out (H.out.up HB0.out) (Mods.nil _ _)).mono ?_; rw [HER.out]; rintro e w1 ⟨rfl, hB1⟩; have HL1 := hide (HL0.out.to hB1); have HB1 := hide (Below.to HB0.out hB1 (Nat.le_refl _)); clear hB1 c0 c1 c2 c3 c4 c5 hlb)
  obtain ⟨d0, d1, d2, d3, d4, d5⟩ := zL HL1.out
  have hld := box_lt HL1.out
  go_upto_region 7 with (go_at_call 114; refine (rcheckWires_any As qs ts A0 A1 A2 A3 A4 A5 q0 q1 q2 q3 q4 q5 l _ HS.out.w HM.out (H.out.up HB1.out) (Ints.up HV.out HB1.out)).mono ?_; rw [HEC.out]; rintro e w2 ⟨rfl, hB2⟩; have HL2 := hide (HL1.out.to hB2); have HB2 := hide (Below.to HB1.out hB2 (Nat.le_refl _));  clear hB2 d0 d1 d2 d3 d4 d5 hld)
  obtain ⟨f0, f1, f2, f3, f4, f5⟩ := zL HL2.out
  have hlf := box_lt HL2.out
  have hn60 : (ts.map Int.toNat).length ≤ 100 := by have := HTN.out.2; omega
  go_upto_region 8 with (go_at_call 111; refine (rnets_any (ts.map Int.toNat) _ A0 A1 A2 A3 A4 A5 q0 q1 q2 q3 q4 q5 l _ (H.out.up HB2.out) HTN.out.1 hn60 hw1000.out (Ints.nods (Ints.up HV.out HB2.out) HT0.out)).mono ?_; rw [HQ.out]; rintro e w3 ⟨v3, vs3, rfl, hN3, hB3⟩; have HN3 := hide hN3; have HL3 := hide (HL2.out.to hB3); have HB3 := hide (Below.to HB2.out hB3 (Nat.le_refl _)); clear hN3 hB3 f0 f1 f2 f3 f4 f5 hlf)
  obtain ⟨k0, k1, k2, k3, k4, k5⟩ := zL HL3.out
  have hlk := box_lt HL3.out
  refine wp_region_held_drew (S := (fun w' => Below w3.heap.size w3 w')) (by kernel_rfl) ?_ (fun hHeld => ?_)
  · try dsimp only
    exact zP
  refine zT 0 rfl ?_
  refine zT 1 rfl ?_
  refine zT 2 rfl ?_
  refine wpAnyH_ready (rs := [3]) (by kernel_rfl) (by simp) ?_
  refine AllReadyH.cons rfl (fun K hK => ?_) AllReadyH.nil
  go_simp
  (first
    | (go_at_call 98; refine (rbelong_any x _ A0 A1 A2 A3 A4 A5 q0 q1 q2 q3 q4 q5 l _ HS.out (H.out.up (Below.to HB3.out zP (Nat.le_refl _))) OK.out (Sl.up HX.out (Below.to HB3.out zP (Nat.le_refl _))) HXL.out).mono ?_; rintro e w4 ⟨v4, rfl, hv4, hB4⟩; have HV4 := hide hv4; have HB4 : Hid (Below w3.heap.size w3 w4) := zP; clear hv4)
    | (go_at_call 111; refine (rnets_any (belL l x) _ A0 A1 A2 A3 A4 A5 q0 q1 q2 q3 q4 q5 l _ (H.out.up (Below.to HB3.out HB4.out (Nat.le_refl _))) hin.out hb100.out hw1000.out HV4.out).mono ?_; rw [HNL.out]; rintro e w5 ⟨v5, vs5, rfl, hN5, hB5⟩; have HN5 := hide hN5; clear hN5)
    | (go_at_call 115; refine (rprobes_any o vs5 _ _ _ _ HNF.out.2.2 HN5.out HNF.out.1 HNF.out.2.1 (Nat.le_refl _)).mono ?_; rw [HJO.out, HAO.out]; rintro e w6 ⟨jv, av, rfl, hj6, ha6, hB6⟩; have HJ3 := hide hj6; have HA3 := hide ha6; clear hj6 ha6))
  (try dsimp only)
  refine hK.out _ _ zP fun hNext => ?_; clear hK K hHeld; have hHeld := hNext; clear hNext; (try dsimp only at hHeld); try simp only [zX]
  refine wpAnyH_ready (rs := [4]) (by kernel_rfl) (by simp) ?_
  refine AllReadyH.cons rfl (fun K hK => ?_) AllReadyH.nil
  go_simp
  (first
    | (go_at_call 98; refine (rbelong_any x _ A0 A1 A2 A3 A4 A5 q0 q1 q2 q3 q4 q5 l _ HS.out (H.out.up (Below.to HB3.out zP (Nat.le_refl _))) OK.out (Sl.up HX.out (Below.to HB3.out zP (Nat.le_refl _))) HXL.out).mono ?_; rintro e w4 ⟨v4, rfl, hv4, hB4⟩; have HV4 := hide hv4; have HB4 : Hid (Below w3.heap.size w3 w4) := zP; clear hv4)
    | (go_at_call 111; refine (rnets_any (belL l x) _ A0 A1 A2 A3 A4 A5 q0 q1 q2 q3 q4 q5 l _ (H.out.up (Below.to HB3.out HB4.out (Nat.le_refl _))) hin.out hb100.out hw1000.out HV4.out).mono ?_; rw [HNL.out]; rintro e w5 ⟨v5, vs5, rfl, hN5, hB5⟩; have HN5 := hide hN5; clear hN5)
    | (go_at_call 115; refine (rprobes_any o vs5 _ _ _ _ HNF.out.2.2 HN5.out HNF.out.1 HNF.out.2.1 (Nat.le_refl _)).mono ?_; rw [HJO.out, HAO.out]; rintro e w6 ⟨jv, av, rfl, hj6, ha6, hB6⟩; have HJ3 := hide hj6; have HA3 := hide ha6; clear hj6 ha6))
  (try dsimp only)
  refine hK.out _ _ zP fun hNext => ?_; clear hK K hHeld; have hHeld := hNext; clear hNext; (try dsimp only at hHeld); try simp only [zX]
  refine wpAnyH_ready (rs := [5]) (by kernel_rfl) (by simp) ?_
  refine AllReadyH.cons rfl (fun K hK => ?_) AllReadyH.nil
  go_simp
  (first
    | (go_at_call 98; refine (rbelong_any x _ A0 A1 A2 A3 A4 A5 q0 q1 q2 q3 q4 q5 l _ HS.out (H.out.up (Below.to HB3.out zP (Nat.le_refl _))) OK.out (Sl.up HX.out (Below.to HB3.out zP (Nat.le_refl _))) HXL.out).mono ?_; rintro e w4 ⟨v4, rfl, hv4, hB4⟩; have HV4 := hide hv4; have HB4 : Hid (Below w3.heap.size w3 w4) := zP; clear hv4)
    | (go_at_call 111; refine (rnets_any (belL l x) _ A0 A1 A2 A3 A4 A5 q0 q1 q2 q3 q4 q5 l _ (H.out.up (Below.to HB3.out HB4.out (Nat.le_refl _))) hin.out hb100.out hw1000.out HV4.out).mono ?_; rw [HNL.out]; rintro e w5 ⟨v5, vs5, rfl, hN5, hB5⟩; have HN5 := hide hN5; clear hN5)
    | (go_at_call 115; refine (rprobes_any o vs5 _ _ _ _ HNF.out.2.2 HN5.out HNF.out.1 HNF.out.2.1 (Nat.le_refl _)).mono ?_; rw [HJO.out, HAO.out]; rintro e w6 ⟨jv, av, rfl, hj6, ha6, hB6⟩; have HJ3 := hide hj6; have HA3 := hide ha6; clear hj6 ha6))
  (try dsimp only)
  refine hK.out _ _ zP fun hNext => ?_; clear hK K hHeld; have hHeld := hNext; clear hNext; (try dsimp only at hHeld); try simp only [zX]
  refine zT 6 rfl ?_
  refine zT 7 rfl ?_
  refine zT 8 rfl ?_
  refine zT 9 rfl ?_
  refine zT 10 rfl ?_
  refine wpAnyH_done (by kernel_rfl) ?_ _
  have HN6 := hide (HN3.out.below (Nat.le_refl _) hHeld)
  have HBW := hide (Below.to HB3.out hHeld (Nat.le_refl _))
  have HS6 : Hid (w3.heap.size ≤ w6.heap.size) := hHeld.size
  clear k0 k1 k2 k3 k4 k5 hlk hHeld
  obtain ⟨W3, hW3⟩ : ∃ wo : World, wo = w6 := ⟨_, rfl⟩
  subst hW3
  obtain ⟨b0, hb0⟩ : ∃ z, w2.heap.size = z := ⟨_, rfl⟩
  obtain ⟨BB, hBB⟩ : ∃ z, w3.heap.size = z := ⟨_, rfl⟩
  rw [hBB] at HN6 HS6
  rw [hb0] at HN6
  obtain ⟨Aj, qj, e1⟩ := HJ3.out.form
  subst e1
  obtain ⟨Aa, qa, e1⟩ := HA3.out.form
  subst e1
  clear hb0 hBB
  go_wp2_with fail
  go_loopw [13] (fun kv wr => ∃ k : Nat, kv = .int .i64 k ∧ k ≤ J.length ∧ Hid (∀ j, j < k → conB Q (J.getD j ppZ).1 (J.getD j ppZ).2 = true) ∧ Hid (Below W3.heap.size W3 wr)) (fun kv _ => J.length - (intOf kv).toNat)
  case atStart => exact ⟨0, rfl, Nat.zero_le _, fun j hj => by omega, Below.refl _ _⟩
  case round =>
    obtain ⟨k, rfl, hk, hz, HW⟩ := hrel
    by_cases hlt : k < J.length
    case pos =>
      have hlt1 : (k : Int) < (J.length : Int) := by omega
      have ik0 : (0 : Int) ≤ (k : Int) := by omega
      obtain ⟨b, off, p, HP, hAj, hbb, hq, e0, e1, e2, e3⟩ := (HJ3.out.up HW.out).at hlt
      subst hAj
      have iq : (J.length : Int) ≤ (qj : Int) := by omega
      have e2' : wr.cell? ⟨b, off + k * 4 + 2 * 1, none⟩ = some (.int .i64 p.2.1) := e2
      have e3' : wr.cell? ⟨b, off + k * 4 + 2 * 1 + 1, none⟩ = some (.int .i64 p.2.2) := e3
      have e2a : wr.cell? ⟨b, off + k * 4 + 1 * 2, none⟩ = some (.int .i64 p.2.1) := e2
      have e3a : wr.cell? ⟨b, off + k * 4 + 1 * 2 + 1, none⟩ = some (.int .i64 p.2.2) := e3
      have e3b : wr.cell? ⟨b, off + k * 4 + 2 + 1, none⟩ = some (.int .i64 p.2.2) := e3
      obtain ⟨c, hc⟩ : ∃ c, conB Q p.1 p.2 = c := ⟨_, rfl⟩
      have HC := hide hc
      have HCN : Hid (∀ W, Below W3.heap.size W3 W → Calls Tryz.prog 110 #[v3, .agg #[.int .i64 p.1.1, .int .i64 p.1.2], .agg #[.int .i64 p.2.1, .int .i64 p.2.2]] W fun e w' => e = .returned (.bool c) ∧ Below W.heap.size W w') := fun W hW => rConnected_any Q vs3 v3 p.1 p.2 b0 BB W c HQI.out (HN6.out.below HS6.out hW) hql (Nat.le_trans HS6.out hW.size) hc
      clear hc hq
      cases c with
      | true =>
        go_upto_region 12 with (fail)
        refine wp_region_held_drew (S := (fun w' => Below wr.heap.size wr w')) (by kernel_rfl) ?_ (fun hHeld => ?_)
        · try dsimp only
          exact zP
        refine zT 0 rfl ?_
        refine zT 1 rfl ?_
        refine zT 2 rfl ?_
        refine zT 3 rfl ?_
        refine zT 4 rfl ?_
        refine zT 5 rfl ?_
        refine zT 6 rfl ?_
        refine zT 7 rfl ?_
        refine zT 8 rfl ?_
        refine zT 9 rfl ?_
        refine zT 10 rfl ?_
        refine wpAnyH_ready (rs := [11]) (by kernel_rfl) (by simp) ?_
        refine AllReadyH.cons rfl (fun K hK => ?_) AllReadyH.nil
        go_simp
        ((go_at_call 110; refine (HCN.out _ (Below.to HW.out zP (Nat.le_refl _))).mono ?_; rintro e w7 ⟨rfl, hB7⟩))
        (try dsimp only)
        refine hK.out _ _ zP fun hNext => ?_; clear hK K hHeld; have hHeld := hNext; clear hNext; (try dsimp only at hHeld); try simp only [zX]
        refine zT 12 rfl ?_
        refine wpAnyH_done (by kernel_rfl) ?_ _
        have HB7 := hide (Below.to HW.out hHeld (Nat.le_refl _))
        clear hHeld e0 e1 e2 e3 hbb e2' e3' e2a e3a e3b
        go_wp2_with fail
        go_roundw
        case rel => exact ⟨k + 1, by go_num, by omega, fun j hj => by
          rcases Nat.lt_or_ge j k with h | h
          · exact hz.out j h
          · rw [show j = k from by omega, HP.out]; exact HC.out, HB7.out⟩
        case measure => simp [intOf]; omega
      | false =>
        have hrf : r = false := by
          rw [HR.out, not_all_pp hlt (by rw [HP.out]; exact HC.out), Bool.false_and]
        subst hrf
        go_upto_region 12 with (fail)
        refine wp_region_held_drew (S := (fun w' => Below wr.heap.size wr w')) (by kernel_rfl) ?_ (fun hHeld => ?_)
        · try dsimp only
          exact zP
        refine zT 0 rfl ?_
        refine zT 1 rfl ?_
        refine zT 2 rfl ?_
        refine zT 3 rfl ?_
        refine zT 4 rfl ?_
        refine zT 5 rfl ?_
        refine zT 6 rfl ?_
        refine zT 7 rfl ?_
        refine zT 8 rfl ?_
        refine zT 9 rfl ?_
        refine zT 10 rfl ?_
        refine wpAnyH_ready (rs := [11]) (by kernel_rfl) (by simp) ?_
        refine AllReadyH.cons rfl (fun K hK => ?_) AllReadyH.nil
        go_simp
        ((go_at_call 110; refine (HCN.out _ (Below.to HW.out zP (Nat.le_refl _))).mono ?_; rintro e w7 ⟨rfl, hB7⟩))
        (try dsimp only)
        refine hK.out _ _ zP fun hNext => ?_; clear hK K hHeld; have hHeld := hNext; clear hNext; (try dsimp only at hHeld); try simp only [zX]
        refine zT 12 rfl ?_
        refine wpAnyH_done (by kernel_rfl) ?_ _
        have HB7 := hide (Below.to HW.out hHeld (Nat.le_refl _))
        clear hHeld e0 e1 e2 e3 hbb e2' e3' e2a e3a e3b
        go_wp2_with fail
        go_ret2
        exact ⟨rfl, Below.trans HBW.out (HB7.out.mono HBW.out.size)⟩
    case neg =>
      have hlt1 : ¬ (k : Int) < (J.length : Int) := by omega
      have HJA : Hid (J.all (fun p => conB Q p.1 p.2) = true) := all_pp fun j hj => hz.out j (by omega)
      obtain ⟨W4, hW4⟩ : ∃ wo : World, wo = wr := ⟨_, rfl⟩
      subst hW4
      have HA4 := hide (HA3.out.up HW.out)
      have HN4 := hide (HN6.out.below HS6.out HW.out)
      have HS4 : Hid (BB ≤ W4.heap.size) := Nat.le_trans HS6.out HW.out.size
      go_wp2_with fail
      go_loopw [14] (fun kv wr => ∃ k : Nat, kv = .int .i64 k ∧ k ≤ A.length ∧ Hid (∀ j, j < k → (!conB Q (A.getD j ppZ).1 (A.getD j ppZ).2) = true) ∧ Hid (Below W4.heap.size W4 wr)) (fun kv _ => A.length - (intOf kv).toNat)
      case atStart => exact ⟨0, rfl, Nat.zero_le _, fun j hj => by omega, Below.refl _ _⟩
      case round =>
        obtain ⟨k, rfl, hk, hz2, HW2⟩ := hrel
        by_cases hlt2 : k < A.length
        case pos =>
          have hlt1 : (k : Int) < (A.length : Int) := by omega
          have ik0 : (0 : Int) ≤ (k : Int) := by omega
          obtain ⟨b, off, p, HP, hAj, hbb, hq, e0, e1, e2, e3⟩ := (HA4.out.up HW2.out).at hlt2
          subst hAj
          have iq : (A.length : Int) ≤ (qa : Int) := by omega
          have e2' : wr.cell? ⟨b, off + k * 4 + 2 * 1, none⟩ = some (.int .i64 p.2.1) := e2
          have e3' : wr.cell? ⟨b, off + k * 4 + 2 * 1 + 1, none⟩ = some (.int .i64 p.2.2) := e3
          have e2a : wr.cell? ⟨b, off + k * 4 + 1 * 2, none⟩ = some (.int .i64 p.2.1) := e2
          have e3a : wr.cell? ⟨b, off + k * 4 + 1 * 2 + 1, none⟩ = some (.int .i64 p.2.2) := e3
          have e3b : wr.cell? ⟨b, off + k * 4 + 2 + 1, none⟩ = some (.int .i64 p.2.2) := e3
          obtain ⟨c, hc⟩ : ∃ c, conB Q p.1 p.2 = c := ⟨_, rfl⟩
          have HC := hide hc
          have HCN : Hid (∀ W, Below W4.heap.size W4 W → Calls Tryz.prog 110 #[v3, .agg #[.int .i64 p.1.1, .int .i64 p.1.2], .agg #[.int .i64 p.2.1, .int .i64 p.2.2]] W fun e w' => e = .returned (.bool c) ∧ Below W.heap.size W w') := fun W hW => rConnected_any Q vs3 v3 p.1 p.2 b0 BB W c HQI.out (HN4.out.below HS4.out hW) hql (Nat.le_trans HS4.out hW.size) hc
          clear hc hq
          cases c with
          | false =>
            go_upto_region 17 with (fail)
            refine wp_region_held_drew (S := (fun w' => Below wr.heap.size wr w')) (by kernel_rfl) ?_ (fun hHeld => ?_)
            · try dsimp only
              exact zP
            refine zT 0 rfl ?_
            refine zT 1 rfl ?_
            refine zT 2 rfl ?_
            refine zT 3 rfl ?_
            refine zT 4 rfl ?_
            refine zT 5 rfl ?_
            refine zT 6 rfl ?_
            refine zT 7 rfl ?_
            refine zT 8 rfl ?_
            refine zT 9 rfl ?_
            refine zT 10 rfl ?_
            refine wpAnyH_ready (rs := [11]) (by kernel_rfl) (by simp) ?_
            refine AllReadyH.cons rfl (fun K hK => ?_) AllReadyH.nil
            go_simp
            ((go_at_call 110; refine (HCN.out _ (Below.to HW2.out zP (Nat.le_refl _))).mono ?_; rintro e w7 ⟨rfl, hB7⟩))
            (try dsimp only)
            refine hK.out _ _ zP fun hNext => ?_; clear hK K hHeld; have hHeld := hNext; clear hNext; (try dsimp only at hHeld); try simp only [zX]
            refine wpAnyH_done (by kernel_rfl) ?_ _
            have HB7 := hide (Below.to HW2.out hHeld (Nat.le_refl _))
            clear hHeld e0 e1 e2 e3 hbb e2' e3' e2a e3a e3b
            go_wp2_with fail
            go_roundw
            case rel => exact ⟨k + 1, by go_num, by omega, fun j hj => by
              rcases Nat.lt_or_ge j k with h | h
              · exact hz2.out j h
              · rw [show j = k from by omega, HP.out, HC.out]; rfl, HB7.out⟩
            case measure => simp [intOf]; omega
          | true =>
            have hrf : r = false := by
              rw [HR.out, not_all_pp hlt2 (by rw [HP.out, HC.out]; rfl), Bool.and_false]
            subst hrf
            go_upto_region 17 with (fail)
            refine wp_region_held_drew (S := (fun w' => Below wr.heap.size wr w')) (by kernel_rfl) ?_ (fun hHeld => ?_)
            · try dsimp only
              exact zP
            refine zT 0 rfl ?_
            refine zT 1 rfl ?_
            refine zT 2 rfl ?_
            refine zT 3 rfl ?_
            refine zT 4 rfl ?_
            refine zT 5 rfl ?_
            refine zT 6 rfl ?_
            refine zT 7 rfl ?_
            refine zT 8 rfl ?_
            refine zT 9 rfl ?_
            refine zT 10 rfl ?_
            refine wpAnyH_ready (rs := [11]) (by kernel_rfl) (by simp) ?_
            refine AllReadyH.cons rfl (fun K hK => ?_) AllReadyH.nil
            go_simp
            ((go_at_call 110; refine (HCN.out _ (Below.to HW2.out zP (Nat.le_refl _))).mono ?_; rintro e w7 ⟨rfl, hB7⟩))
            (try dsimp only)
            refine hK.out _ _ zP fun hNext => ?_; clear hK K hHeld; have hHeld := hNext; clear hNext; (try dsimp only at hHeld); try simp only [zX]
            refine wpAnyH_done (by kernel_rfl) ?_ _
            have HB7 := hide (Below.to HW2.out hHeld (Nat.le_refl _))
            clear hHeld e0 e1 e2 e3 hbb e2' e3' e2a e3a e3b
            go_wp2_with fail
            go_ret2
            exact ⟨rfl, Below.trans HBW.out ((Below.to HW.out HB7.out (Nat.le_refl _)).mono HBW.out.size)⟩
        case neg =>
          have hlt1 : ¬ (k : Int) < (A.length : Int) := by omega
          have hrt : r = true := by
            rw [HR.out, HJA.out, all_pp fun j hj => hz2.out j (by omega)]
            rfl
          subst hrt
          go_wp2_with fail
          go_ret2
          exact ⟨rfl, Below.trans HBW.out ((Below.to HW.out HW2.out (Nat.le_refl _)).mono HBW.out.size)⟩
theorem cellsPn108 : Tryz.prog.cellsOf 74 = 2 := by kernel_rfl
theorem pinEq0 (d : Nat) (a b : Int) (w : World) : (Op.equalIn (d + 2) 74 (.agg #[.int .i64 a, .int .i64 b]) (.agg #[.int .i64 a, .int .i64 b])).run Tryz.prog w = .ok true w := by
  go_simp
theorem pairNe (a b c d : Int) (w : World) : (binOp BinOp.neq 151 (.agg #[.int .i64 a, .int .i64 b, .int .i64 c, .int .i64 d]) (.agg #[.int .i64 a, .int .i64 b, .int .i64 c, .int .i64 d])).run Tryz.prog w = Result.ok (.bool false) w := by
  obtain ⟨i0, hi0, iz0, iz1, iz2⟩ := info_parts infoPin
  have h := run_equalIn_array (P := Tryz.prog) (w := w) 9999 #[.int .i64 a, .int .i64 b, .int .i64 c, .int .i64 d] #[.int .i64 a, .int .i64 b, .int .i64 c, .int .i64 d] Tryz.underlying151 hi0
  rw [cellsPn108, show List.range 2 = [0, 1] from rfl] at h
  have p1 : ∀ w, (part 74 #[.int .i64 a, .int .i64 b, .int .i64 c, .int .i64 d] (0 * 2)).run Tryz.prog w = .ok (.agg #[.int .i64 a, .int .i64 b]) w := fun w => by go_simp
  have p2 : ∀ w, (part 74 #[.int .i64 a, .int .i64 b, .int .i64 c, .int .i64 d] (1 * 2)).run Tryz.prog w = .ok (.agg #[.int .i64 c, .int .i64 d]) w := fun w => by go_simp
  have q1 := pinEq0 9997 a b
  have q2 := pinEq0 9997 c d
  simp only [Op.eqItems, Sem.run_bind, p1, p2, Result.andThen_ok] at h
  rw [q1] at h
  simp only [Result.andThen_ok, Bool.not_true, Bool.false_eq_true, if_false, Sem.run_bind, p1, p2] at h
  rw [q2] at h
  simp only [Result.andThen_ok, Bool.not_true, Bool.false_eq_true, if_false, Sem.run_pure] at h
  simp only [binOp, Op.equal, Op.maxDepth, Sem.run_bind, Sem.run_pure]
  rw [h]
  rfl
theorem pinNe0 (a b : Int) (w : World) : (binOp BinOp.neq 74 (.agg #[.int .i64 a, .int .i64 b]) (.agg #[.int .i64 a, .int .i64 b])).run Tryz.prog w = Result.ok (.bool false) w := by
  go_simp
set_option maxRecDepth 100000 in
set_option maxHeartbeats 2000000 in
theorem samePins_any (L : List Pn) (v u : Value) (w : World) (hm : L.length ≤ 1000000) (hv : Pns w w.heap.size v L) (hu : Pns w w.heap.size u L) :
    Calls Tryz.prog 44 #[v, u] w fun e w' => e = .returned (.bool true) ∧ Below w.heap.size w w' := by
  obtain ⟨Av, qv, rfl⟩ := hv.form
  obtain ⟨Au, qu, rfl⟩ := hu.form
  have HV := hide hv
  have HU := hide hu
  have g1 : ((L.length : Int) != (L.length : Int)) = false := by simp
  clear hv hu
  go_enter Tryz.func44, Tryz.ntmps44
  go_wp2_with fail
  go_loopw [5] (fun iv wr => ∃ k : Nat, iv = .int .i64 k ∧ k ≤ L.length ∧ Hid (Below w.heap.size w wr)) (fun iv _ => L.length - (intOf iv).toNat)
  case atStart => exact ⟨0, rfl, Nat.zero_le _, Below.refl _ _⟩
  case round =>
    obtain ⟨k, rfl, hk, HW⟩ := hrel
    by_cases hlt : k < L.length
    case neg =>
      have hlt1 : ¬ (k : Int) < (L.length : Int) := by omega
      go_wp2_with fail
      go_ret
      exact ⟨rfl, HW.out⟩
    case pos =>
      have hlt1 : (k : Int) < (L.length : Int) := by omega
      have ik0 : (0 : Int) ≤ (k : Int) := by omega
      obtain ⟨b1, o1, a, HA, hA1, hb1, hq1, e0, e1⟩ := (HV.out.up HW.out).at8 hlt
      obtain ⟨b2, o2, a2, HA2, hA2, hb2, hq2, f0, f1⟩ := (HU.out.up HW.out).at8 hlt
      have haa : a = a2 := HA.out.symm.trans HA2.out
      subst haa hA1 hA2
      have iq1 : (L.length : Int) ≤ (qv : Int) := by omega
      have iq2 : (L.length : Int) ≤ (qu : Int) := by omega
      have hne := pinNe0 a.1 a.2
      clear hq1 hq2
      go_upto_region 6 with (fail)
      refine wp_region_held_drew (S := (fun w' => Below wr.heap.size wr w')) (by kernel_rfl) ?_ (fun hHeld => ?_)
      · try dsimp only
        exact zP
      refine zT 0 rfl ?_
      refine zT 1 rfl ?_
      refine zT 2 rfl ?_
      refine zT 3 rfl ?_
      refine zT 4 rfl ?_
      refine zT 5 rfl ?_
      refine zT 6 rfl ?_
      refine zT 7 rfl ?_
      refine zT 8 rfl ?_
      refine wpAnyH_done (by kernel_rfl) ?_ _
      go_wp2_with fail
      go_roundw
      case rel => exact ⟨k + 1, by go_num, by omega, Below.to HW.out hHeld (Nat.le_refl _)⟩
      case measure => simp [intOf]; omega
set_option maxRecDepth 100000 in
set_option maxHeartbeats 2000000 in
theorem samePairs_any (L : List PP) (v u : Value) (w : World) (hm : L.length ≤ 1000000) (hv : Pps w w.heap.size v L) (hu : Pps w w.heap.size u L) :
    Calls Tryz.prog 47 #[v, u] w fun e w' => e = .returned (.bool true) ∧ Below w.heap.size w w' := by
  obtain ⟨Av, qv, rfl⟩ := hv.form
  obtain ⟨Au, qu, rfl⟩ := hu.form
  have HV := hide hv
  have HU := hide hu
  have g1 : ((L.length : Int) != (L.length : Int)) = false := by simp
  clear hv hu
  go_enter Tryz.func47, Tryz.ntmps47
  go_wp2_with fail
  go_loopw [5] (fun iv wr => ∃ k : Nat, iv = .int .i64 k ∧ k ≤ L.length ∧ Hid (Below w.heap.size w wr)) (fun iv _ => L.length - (intOf iv).toNat)
  case atStart => exact ⟨0, rfl, Nat.zero_le _, Below.refl _ _⟩
  case round =>
    obtain ⟨k, rfl, hk, HW⟩ := hrel
    by_cases hlt : k < L.length
    case neg =>
      have hlt1 : ¬ (k : Int) < (L.length : Int) := by omega
      go_wp2_with fail
      go_ret
      exact ⟨rfl, HW.out⟩
    case pos =>
      have hlt1 : (k : Int) < (L.length : Int) := by omega
      have ik0 : (0 : Int) ≤ (k : Int) := by omega
      obtain ⟨b1, o1, a, HA, hA1, hb1, hq1, e0, e1, e2, e3⟩ := (HV.out.up HW.out).at hlt
      obtain ⟨b2, o2, a2, HA2, hA2, hb2, hq2, f0, f1, f2, f3⟩ := (HU.out.up HW.out).at hlt
      have haa : a = a2 := HA.out.symm.trans HA2.out
      subst haa hA1 hA2
      have iq1 : (L.length : Int) ≤ (qv : Int) := by omega
      have iq2 : (L.length : Int) ≤ (qu : Int) := by omega
      have hne := pairNe a.1.1 a.1.2 a.2.1 a.2.2
      clear hq1 hq2
      go_upto_region 6 with (fail)
      refine wp_region_held_drew (S := (fun w' => Below wr.heap.size wr w')) (by kernel_rfl) ?_ (fun hHeld => ?_)
      · try dsimp only
        exact zP
      refine zT 0 rfl ?_
      refine zT 1 rfl ?_
      refine zT 2 rfl ?_
      refine zT 3 rfl ?_
      refine zT 4 rfl ?_
      refine zT 5 rfl ?_
      refine zT 6 rfl ?_
      refine zT 7 rfl ?_
      refine zT 8 rfl ?_
      refine wpAnyH_done (by kernel_rfl) ?_ _
      go_wp2_with fail
      go_roundw
      case rel => exact ⟨k + 1, by go_num, by omega, Below.to HW.out hHeld (Nat.le_refl _)⟩
      case measure => simp [intOf]; omega
end Go.Proofs.YtehadoecnmfeoaaGreat

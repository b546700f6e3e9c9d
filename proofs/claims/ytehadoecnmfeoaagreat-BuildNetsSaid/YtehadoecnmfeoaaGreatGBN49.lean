/- Part 49 of this claim's texts: walks and plain laws. -/
import Derived.Test.YtehadoecnmfeoaaGreatRows
import Derived.Test.YtehadoecnmfeoaaGreatGBN47
import Derived.Test.YtehadoecnmfeoaaGreatGBN48
import Derived.Deep.DeepMust
import Derived.Deep.RegionHeld3
import Derived.Deep.DrawnRows
import Derived.Test.YtehadoecnmfeoaaGreatGBN3
import Derived.Test.YtehadoecnmfeoaaGreatGBN17
import Derived.Test.YtehadoecnmfeoaaGreatGBN10
set_option linter.unusedVariables false
set_option linter.unusedSimpArgs false
set_option linter.unusedSectionVars false
namespace Go.Proofs.YtehadoecnmfeoaaGreat
open Go.Joins Go.ChangeShapes Go.WideShapes Go.ChangeAt Go.RowKit Go.Deep
theorem ntsL_small (l : Lo) (ts : List Int) : (ntsL l ts).length ≤ 100 ∧ totN (ntsL l ts) ≤ 1000 := by
  unfold ntsL
  split
  · rename_i h
    have hc : chkE l ts = 0 := by
      unfold ntsE at h
      by_cases h2 : l.err = 0
      · rw [if_pos h2] at h; exact h
      · rw [if_neg h2] at h; exact absurd h h2
    have h1 := net_facts (es := esL l (ts.map Int.toNat)) (by unfold esL; rw [List.length_map]; exact (ts_nat hc).2)
    exact ⟨h1.1, h1.2.1⟩
  · simp [totN]
theorem prb_small (l : Lo) (x : List Bool) : (prbJ l x).length ≤ 1000 ∧ (prbA l x).length ≤ 10000 := by
  unfold prbJ prbA
  by_cases h : copE l x = 0
  · rw [if_pos h, if_pos h]
    obtain ⟨ok, _⟩ := copE_ok h
    have h60 := ok.w60
    have hb60 : (belL l x).length ≤ 60 := Nat.le_trans (belK_le l x _) h60
    have h1 := net_facts (es := esL l (belL l x)) (by unfold esL; rw [List.length_map]; exact hb60)
    exact ⟨Nat.le_trans (jonL_le _) h1.2.1, apaL_le h1.1⟩
  · rw [if_neg h, if_neg h]
    simp
set_option maxRecDepth 100000 in
set_option maxHeartbeats 8000000 in
theorem buildNets_walk (As : Option Addr) (qs : Nat) (ts : List Int) (x : List Bool) (Ax : Option Addr) (qx : Nat) (A0 A1 A2 A3 A4 A5 : Option Addr) (q0 q1 q2 q3 q4 q5 : Nat) (l : Lo) (w : World) (hs : SizedL l) (hm : ts.length ≤ maxLen) (h : LoA w w.heap.size A0 A1 A2 A3 A4 A5 q0 q1 q2 q3 q4 q5 l) (hx : Bols w w.heap.size (.slice Ax x.length qx) x) (hv : Ints w w.heap.size (.slice As ts.length qs) ts) :
    Calls Tryz.prog 12 #[.agg #[.slice A0 l.m.opts.length q0, .slice A1 l.m.rules.length q1, .slice A2 l.ss.length q2, .slice A3 l.us.length q3, .slice A4 l.ps.length q4, .slice A5 l.ws.length q5], .slice Ax x.length qx, .slice As ts.length qs] w fun e w' => e = .returned (.bool true) ∧ Below w.heap.size w w' := by
  have H := hide h
  have HS := hide hs
  have HX := hide hx
  have HV := hide hv
  have HM := hide hm
  clear h hs hx hv hm
  obtain ⟨lg, hlg⟩ : ∃ z, lrgB l [] = z := ⟨_, rfl⟩
  have hlarge : ∀ (W : World), LoA W W.heap.size A0 A1 A2 A3 A4 A5 q0 q1 q2 q3 q4 q5 l → Calls Tryz.prog 14 #[.agg #[.slice A0 l.m.opts.length q0, .slice A1 l.m.rules.length q1, .slice A2 l.ss.length q2, .slice A3 l.us.length q3, .slice A4 l.ps.length q4, .slice A5 l.ws.length q5], .slice none 0 0] W fun e w' => e = .returned (.bool lg) ∧ Below W.heap.size W w' := fun W hW => by
    have h1 := large12_any [] none 0 A0 A1 A2 A3 A4 A5 q0 q1 q2 q3 q4 q5 l W hW
    rw [hlg] at h1
    exact h1
  have HLA := hide hlarge
  clear hlarge hlg
  cases lg with
  | true =>
    go_enter Tryz.func12, Tryz.ntmps12
    go_upto_region 1 with (fail)
    generalize hw0 : World.alloc _ _ = w0
    obtain ⟨hb0, hB0, hs0⟩ := alloc1 hw0
    have HB0 := hide hB0
    obtain ⟨c0, c1, c2, c3, c4, c5⟩ := zL hb0
    have hlb := box_lt hb0
    clear hw0 hb0 hB0 hs0
    go_wp2_with (first
      | (go_at_call 14; refine (HLA.out _ (H.out.up HB0.out)).mono ?_; rintro e w1 ⟨rfl, hB1⟩; have HB1 := hide (Below.to HB0.out hB1 (Nat.le_refl _)); clear hB1 c0 c1 c2 c3 c4 c5 hlb)
      | (go_at_call 15; refine (works_build _).mono ?_; rintro e w2 ⟨rfl, hB2⟩))
    go_ret
    exact ⟨rfl, Below.to HB1.out hB2 (Nat.le_refl _)⟩
  | false =>
  obtain ⟨er, her⟩ : ∃ z, ntsE l ts = z := ⟨_, rfl⟩
  obtain ⟨Q, hQ⟩ : ∃ z, ntsL l ts = z := ⟨_, rfl⟩
  have hQl : Q.length ≤ 100 := by rw [← hQ]; exact (ntsL_small l ts).1
  have HQT : Hid (totN Q ≤ 1000) := by show _ ≤ _; rw [← hQ]; exact (ntsL_small l ts).2
  obtain ⟨ep, hep⟩ : ∃ z, copE l x = z := ⟨_, rfl⟩
  obtain ⟨J, hJ⟩ : ∃ z, prbJ l x = z := ⟨_, rfl⟩
  obtain ⟨A, hA⟩ : ∃ z, prbA l x = z := ⟨_, rfl⟩
  have hJl : J.length ≤ 1000 := by rw [← hJ]; exact (prb_small l x).1
  have hAl : A.length ≤ 10000 := by rw [← hA]; exact (prb_small l x).2
  obtain ⟨ea, hea⟩ : ∃ z, pasE l x ts = z := ⟨_, rfl⟩
  obtain ⟨pv, hpv⟩ : ∃ z, pasV l x ts = z := ⟨_, rfl⟩
  have HER := hide her
  have HQ := hide hQ
  have HEP := hide hep
  have HJ := hide hJ
  have HA := hide hA
  have HEA := hide hea
  have HPV := hide hpv
  have g1 : (er != er) = false := by simp
  have g2 : ((Q.length : Int) != (Q.length : Int)) = false := by simp
  have g3 : (ep != ep) = false := by simp
  have g4 : (ea == ea) = true := by simp
  have g5 : (pv == pv) = true := by simp
  clear her hQ hep hJ hA hea hpv
  go_enter Tryz.func12, Tryz.ntmps12
  go_upto_region 1 with (fail)
  generalize hw0 : World.alloc _ _ = w0
  obtain ⟨hb0, hB0, hs0⟩ := alloc1 hw0
  have HB0 := hide hB0
  have HL0 : Hid (LoBox w0 w.heap.size A0 A1 A2 A3 A4 A5 q0 q1 q2 q3 q4 q5 l) := hb0
  obtain ⟨c0, c1, c2, c3, c4, c5⟩ := zL hb0
  have hlb := box_lt hb0
  clear hw0 hb0 hB0 hs0
  go_upto_region 4 with (first
    | (go_at_call 14; refine (HLA.out _ (H.out.up HB0.out)).mono ?_; rintro e w1 ⟨rfl, hB1⟩; have HL1 := hide (HL0.out.to hB1); have HB1 := hide (Below.to HB0.out hB1 (Nat.le_refl _)); clear hB1 c0 c1 c2 c3 c4 c5 hlb; obtain ⟨d0, d1, d2, d3, d4, d5⟩ := zL HL1.out; have hld := box_lt HL1.out)
    | (go_at_call 42; refine (Nets_any As qs ts A0 A1 A2 A3 A4 A5 q0 q1 q2 q3 q4 q5 l w1 HS.out HM.out (H.out.up HB1.out) (Ints.up HV.out HB1.out)).mono ?_; rw [HER.out, HQ.out]; rintro e w2 ⟨v2, us, rfl, hv2, hB2⟩; obtain ⟨Au, qu, e2⟩ := owns_form hv2.own; subst e2; have HV2 := hide hv2; have HL2 := hide (HL1.out.to hB2); have HB2 := hide (Below.to HB1.out hB2 (Nat.le_refl _)); clear hv2 hB2 d0 d1 d2 d3 d4 d5 hld; obtain ⟨c0, c1, c2, c3, c4, c5⟩ := zL HL2.out; have hlb := box_lt HL2.out))
  go_upto_region 7 with (go_at_call 43; refine (rNets_any As qs ts A0 A1 A2 A3 A4 A5 q0 q1 q2 q3 q4 q5 l w2 HS.out HM.out (H.out.up HB2.out) (Ints.up HV.out HB2.out)).mono ?_; rw [HER.out, HQ.out]; rintro e w3 ⟨v3, vs, rfl, hv3, hB3⟩; obtain ⟨Av, qv, e3⟩ := owns_form hv3.own; subst e3; have HV3 := hide hv3; have HV23 := hide (HV2.out.below (Nat.le_refl _) hB3); have HL3 := hide (HL2.out.to hB3); have HSZ : Hid (w2.heap.size ≤ w3.heap.size) := hB3.size; have HB3 := hide (Below.to HB2.out hB3 (Nat.le_refl _)); clear hv3 hB3 c0 c1 c2 c3 c4 c5 hlb)
  obtain ⟨W3, hW3⟩ : ∃ wo : World, wo = w3 := ⟨_, rfl⟩
  subst hW3
  go_wp2_with fail
  go_loopw [11] (fun i wr => ∃ k : Nat, i = .int .i64 k ∧ k ≤ Q.length ∧ Hid (Below W3.heap.size W3 wr)) (fun i _ => Q.length - (intOf i).toNat)
  case atStart => exact ⟨0, rfl, Nat.zero_le _, Below.refl _ _⟩
  case round =>
    obtain ⟨k, rfl, hk, HW⟩ := hrel
    have HBr := hide (Below.to HB3.out HW.out (Nat.le_refl _))
    by_cases hkl : k < Q.length
    case neg =>
      have hkl1 : ¬ (k : Int) < (Q.length : Int) := by omega
      have HLr := hide (HL3.out.to HW.out)
      obtain ⟨d0, d1, d2, d3, d4, d5⟩ := zL HLr.out
      have hld := box_lt HLr.out
      clear hkl
      go_upto_region 13 with (go_at_call 45; refine (Probes_any x Ax qx A0 A1 A2 A3 A4 A5 q0 q1 q2 q3 q4 q5 l wr HS.out (H.out.up HBr.out) (Sl.up HX.out HBr.out)).mono ?_; rw [HEP.out, HJ.out, HA.out]; rintro e w4 ⟨j4, a4, rfl, hj4, ha4, hB4⟩; have HJ4 := hide hj4; have HA4 := hide ha4; have HL4 := hide (HLr.out.to hB4); have HB4 := hide (Below.to HBr.out hB4 (Nat.le_refl _)); clear hj4 ha4 hB4 d0 d1 d2 d3 d4 d5 hld)
      obtain ⟨c0, c1, c2, c3, c4, c5⟩ := zL HL4.out
      have hlb := box_lt HL4.out
      go_upto_region 14 with (go_at_call 46; refine (rProbes_any x Ax qx A0 A1 A2 A3 A4 A5 q0 q1 q2 q3 q4 q5 l w4 HS.out (H.out.up HB4.out) (Sl.up HX.out HB4.out)).mono ?_; rw [HEP.out, HJ.out, HA.out]; rintro e w5 ⟨j5, a5, rfl, hj5, ha5, hB5⟩; have HJ5 := hide hj5; have HA5 := hide ha5; have HJ45 := hide (HJ4.out.up hB5); have HA45 := hide (HA4.out.up hB5); have HL5 := hide (HL4.out.to hB5); have HB5 := hide (Below.to HB4.out hB5 (Nat.le_refl _)); clear hj5 ha5 hB5 c0 c1 c2 c3 c4 c5 hlb)
      have hmark : True := trivial
      go_upto_region 16 with (first
        | (go_at_call 47; have hgd := hmark; refine (samePairs_any J _ _ _ (by omega) HJ45.out HJ5.out).mono ?_; rintro e w6 ⟨rfl, hB6⟩; have HA6 := hide (HA5.out.up hB6); have HA46 := hide (HA45.out.up hB6); have HL6 := hide (HL5.out.to hB6); have HB6 := hide (Below.to HB5.out hB6 (Nat.le_refl _)); clear hB6 hmark hgd)
        | (go_at_call 47; have hgd := HA6; refine (samePairs_any A _ _ _ (by omega) HA46.out HA6.out).mono ?_; rintro e w7 ⟨rfl, hB7⟩; have HL7 := hide (HL6.out.to hB7); have HB7 := hide (Below.to HB6.out hB7 (Nat.le_refl _)); clear hB7 hgd))
      obtain ⟨d0, d1, d2, d3, d4, d5⟩ := zL HL7.out
      have hld := box_lt HL7.out
      go_upto_region 17 with (go_at_call 48; refine (Passed_any x Ax qx As qs ts A0 A1 A2 A3 A4 A5 q0 q1 q2 q3 q4 q5 l w7 HS.out HM.out (H.out.up HB7.out) (Sl.up HX.out HB7.out) (Ints.up HV.out HB7.out)).mono ?_; rw [HEA.out, HPV.out]; rintro e w8 ⟨rfl, hB8⟩; have HL8 := hide (HL7.out.to hB8); have HB8 := hide (Below.to HB7.out hB8 (Nat.le_refl _)); clear hB8 d0 d1 d2 d3 d4 d5 hld)
      obtain ⟨c0, c1, c2, c3, c4, c5⟩ := zL HL8.out
      have hlb := box_lt HL8.out
      go_upto_region 18 with (go_at_call 49; refine (rPassed_any x Ax qx As qs ts A0 A1 A2 A3 A4 A5 q0 q1 q2 q3 q4 q5 l w8 HS.out HM.out (H.out.up HB8.out) (Sl.up HX.out HB8.out) (Ints.up HV.out HB8.out)).mono ?_; rw [HEA.out, HPV.out]; rintro e w9 ⟨rfl, hB9⟩; have HB9 := hide (Below.to HB8.out hB9 (Nat.le_refl _)); clear hB9 c0 c1 c2 c3 c4 c5 hlb)
      go_wp2_with (go_at_call 15; refine (works_build _).mono ?_; rintro e wz ⟨rfl, hBz⟩)
      go_ret
      exact ⟨rfl, Below.to HB9.out hBz (Nat.le_refl _)⟩
    case pos =>
    have hkl1 : (k : Int) < (Q.length : Int) := by omega
    have ik0 : (0 : Int) ≤ (k : Int) := by omega
    obtain ⟨g1', Ai, qi, net, HN1, hA1, l1, hq1, hn1, hz1, c1, p1⟩ := (HV23.out.below HSZ.out HW.out).at hkl
    obtain ⟨g2', Aj, qj, net2, HN2, hA2, l2, hq2, hn2, hz2, c2, p2⟩ := (HV3.out.below (Nat.le_refl _) HW.out).at hkl
    have hnn : net = net2 := HN1.out.symm.trans HN2.out
    subst hnn hA1 hA2
    have HP1 := hide p1
    have HP2 := hide p2
    have iqu : (Q.length : Int) ≤ (qu : Int) := by omega
    have iqv : (Q.length : Int) ≤ (qv : Int) := by omega
    have HNL : Hid (net.length ≤ 1000000) := by show _ ≤ _; omega
    clear hq1 hq2 hn1 hn2 hz1 hz2 p1 p2
    go_upto_region 10 with (fail)
    refine wp_region_held_drew (S := (fun w' => Below wr.heap.size wr w')) (by kernel_rfl) ?_ (fun hHeld => ?_)
    · try dsimp only
      exact zP
    refine zT 0 rfl ?_
    refine zT 1 rfl ?_
    refine zT 2 rfl ?_
    refine zT 3 rfl ?_
    refine zT 4 rfl ?_
    refine zT 5 rfl ?_
    refine zT 6 rfl ?_
    refine zT 7 rfl ?_
    refine wpAnyH_ready (rs := [8]) (by kernel_rfl) (by simp) ?_
    refine AllReadyH.cons rfl (fun K hK => ?_) AllReadyH.nil
    go_simp
    ((go_at_call 44; refine (samePins_any net _ _ _ HNL.out (HP1.out.up zP) (HP2.out.up zP)).mono ?_; rintro e w4 ⟨rfl, hB4⟩))
    (try dsimp only)
    refine hK.out _ _ zP fun hNext => ?_; clear hK K hHeld; have hHeld := hNext; clear hNext; (try dsimp only at hHeld); try simp only [zX]
    refine zT 9 rfl ?_
    refine wpAnyH_done (by kernel_rfl) ?_ _
    have HBz := hide (Below.to HW.out hHeld (Nat.le_refl _))
    clear hHeld c1 c2 l1 l2
    go_wp2_with fail
    go_roundw
    case rel => exact ⟨k + 1, by go_num, by omega, HBz.out⟩
    case measure => simp [intOf]; omega
set_option maxRecDepth 100000
section
variable {H : Type} {enc : TypeId × Value → H} {W : World} {base b0 : Nat} {r : Reach} {spare : Nat → Bool} {held : Bool} {v : Value} {d : DataW H} {p : List MemPlace}
theorem open_lo (hv : Value.okWide Tryz.prog W r b0 31 v) (h : DataW.Trod enc Tryz.prog W base spare held 31 v d p) :
    ∃ (A0 A1 A2 A3 A4 A5 : Option Addr) (q0 q1 q2 q3 q4 q5 : Nat), ∃ l : Lo, v = .agg #[.slice A0 l.m.opts.length q0, .slice A1 l.m.rules.length q1, .slice A2 l.ss.length q2, .slice A3 l.us.length q3, .slice A4 l.ps.length q4, .slice A5 l.ws.length q5] ∧ LoA W W.heap.size A0 A1 A2 A3 A4 A5 q0 q1 q2 q3 q4 q5 l ∧ SizedL l := by
  obtain ⟨ov, rv, sv, uv, pv, wv, l, rfl, hl, hs, _⟩ := open_loom hv h
  obtain ⟨A0, A1, A2, A3, A4, A5, q0, q1, q2, q3, q4, q5, rfl, rfl, rfl, rfl, rfl, rfl, hla⟩ := hl.form
  exact ⟨A0, A1, A2, A3, A4, A5, q0, q1, q2, q3, q4, q5, l, rfl, hla, hs⟩
end
set_option maxRecDepth 100000
section
variable {H : Type} {enc : TypeId × Value → H} {W : World} {base b0 : Nat} {r : Reach} {spare : Nat → Bool} {held : Bool} {v : Value} {d : DataW H} {p : List MemPlace}
theorem cellsBool12 : Tryz.prog.cellsOf 4 = 1 := by kernel_rfl
theorem bools_cell12 {n : Nat} {c : Value} {y : DataW H × List MemPlace} (h : DataW.trod enc Tryz.prog W base spare held n 35 [c] = some y) : ∃ l : List Bool, Bols W W.heap.size c l ∧ l.length ≤ maxLen := by
  obtain ⟨xs, hsl, hl, _⟩ := open_rows (α := Bool) false (fun x _ => .bool x) (fun _ => True) Tryz.underlying35 cellsBool12 (by omega) (by
    intro n cs' y hlen ht
    match cs', hlen with
    | [c0], _ =>
      obtain ⟨s, h1, _⟩ := DataW.trod_bool Tryz.underlying4 ht
      simp at h1
      subst h1
      refine ⟨s, fun j hj => ?_, trivial⟩
      match j, hj with
      | 0, _ => rfl) h
  exact ⟨xs, hsl, hl⟩
theorem open_bools12 (hv : Value.okWide Tryz.prog W r b0 35 v) (h : DataW.Trod enc Tryz.prog W base spare held 35 v d p) :
    ∃ l : List Bool, Bols W W.heap.size v l ∧ l.length ≤ maxLen := by
  obtain ⟨a0, len, cap, rfl⟩ := okWide_slice Tryz.underlying35 hv
  obtain ⟨fuel, hf⟩ := h
  exact bools_cell12 hf
end
end Go.Proofs.YtehadoecnmfeoaaGreat

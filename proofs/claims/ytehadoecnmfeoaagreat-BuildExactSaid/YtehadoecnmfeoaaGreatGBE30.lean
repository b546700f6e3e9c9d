/- Part 30 of this claim's texts: walks and plain laws. -/
import Derived.Test.YtehadoecnmfeoaaGreatRows
import Derived.Test.YtehadoecnmfeoaaGreatGBE29
import Derived.Deep.DeepMust
import Derived.Deep.RegionHeld3
import Derived.Deep.DrawnRows
import Derived.Test.YtehadoecnmfeoaaGreatGBE3
import Derived.Test.YtehadoecnmfeoaaGreatGBE17
import Derived.Test.YtehadoecnmfeoaaGreatGBE12
import Derived.Test.YtehadoecnmfeoaaGreatGBE26
import Derived.Test.YtehadoecnmfeoaaGreatGBE28
/- Which defect a wire has in a variant: walk. -/
namespace Go.Proofs.YtehadoecnmfeoaaGreat
open Go.RowKit
set_option linter.unusedVariables false
set_option linter.unusedSimpArgs false
def cntD (D : List Nat) (w k : Nat) : Nat := ((D.drop k).filter fun x => x == w).length
theorem cntD_end {D : List Nat} {w k : Nat} (h : D.length ≤ k) : cntD D w k = 0 := by
  unfold cntD
  rw [List.drop_eq_nil_of_le h]
  rfl
theorem cntD_step {D : List Nat} {w k : Nat} (h : k < D.length) : cntD D w k = (if D.getD k 0 == w then 1 else 0) + cntD D w (k + 1) := by
  unfold cntD
  rw [List.drop_eq_getElem_cons h, List.filter_cons, List.getD_eq_getElem?_getD, List.getElem?_eq_getElem h, Option.getD_some]
  cases D[k] == w with
  | true => rw [if_pos rfl, if_pos rfl, List.length_cons]; omega
  | false => rw [if_neg (by simp), if_neg (by simp)]; omega
theorem cntD_made {n : Nat} {ms : List Md} {x : List Bool} {w : Nat} (h : w < n) : cntD (madeN n ms x) w 0 = manyN ms x w := by
  have h1 := madeN_count ms x w n
  rw [if_pos h] at h1
  rw [← h1, List.count_eq_countP, List.countP_eq_length_filter]
  rfl
theorem madeN_len {ms : List Md} {x : List Bool} {m : Nat} (hw : ∀ d ∈ ms, wiresB m d.ws = true) (h60 : ms.length ≤ 60) : ∀ n, (madeN n ms x).length ≤ n * 60
  | 0 => Nat.le_refl _
  | n + 1 => by
    rw [madeN_succ, List.length_append, List.length_replicate]
    have h1 := madeN_len (x := x) hw h60 n
    have h2 := many_le ms x n _ hw
    omega
set_option maxRecDepth 100000 in
set_option maxHeartbeats 4000000 in
theorem defect_any (k0 : Nat) (ms : List Md) (x : List Bool) (Am : Option Addr) (qm : Nat) (Ax : Option Addr) (qx : Nat) (A0 A1 A2 A3 A4 A5 : Option Addr) (q0 q1 q2 q3 q4 q5 : Nat) (l : Lo) (w : World) (hs : SizedL l) (hd : SizedD ms) (h : LoA w w.heap.size A0 A1 A2 A3 A4 A5 q0 q1 q2 q3 q4 q5 l) (hm : Mods w w.heap.size (.slice Am ms.length qm) ms) (hx : Bols w w.heap.size (.slice Ax x.length qx) x) (hb : bldE l ms = 0) (hxl : x.length = l.m.opts.length) (hk : k0 < l.ws.length) :
    Calls Tryz.prog 33 #[.agg #[.slice A0 l.m.opts.length q0, .slice A1 l.m.rules.length q1, .slice A2 l.ss.length q2, .slice A3 l.us.length q3, .slice A4 l.ps.length q4, .slice A5 l.ws.length q5], .slice Am ms.length qm, .slice Ax x.length qx, .int .i64 (k0 : Nat)] w fun e w' => e = .returned (.tuple #[.int .i64 (kndN l ms x k0 : Nat), .bool true]) ∧ Below w.heap.size w w' := by
  have H := hide h
  have HS := hide hs
  have HM := hide hm
  have HD := hide hd
  have HX := hide hx
  obtain ⟨kd, hkd⟩ : ∃ z, kndN l ms x k0 = z := ⟨_, rfl⟩
  rw [hkd]
  have okm := bldE_ok hb
  have hpe := (pik_ok hb hxl).1
  have HPE := hide hpe
  obtain ⟨D, hD⟩ : ∃ z, madL l ms x = z := ⟨_, rfl⟩
  have HDD := hide hD
  have hDm : D = madeN l.ws.length ms x := by rw [← hD]; unfold madL; rw [if_pos hpe]
  obtain ⟨Q, hQ⟩ : ∃ z, manyN ms x k0 = z := ⟨_, rfl⟩
  have hQ60 : Q ≤ 60 := by rw [← hQ]; exact Nat.le_trans (many_le ms x k0 _ (ms_wires hb)) okm.n
  have hcn : cntD D k0 0 = Q := by rw [hDm, cntD_made hk, hQ]
  have hDl : D.length ≤ 3600 := by
    rw [hDm]
    have h1 := madeN_len (x := x) (ms_wires hb) okm.n l.ws.length
    have h2 := okm.lo.w60
    omega
  obtain ⟨bw, ow, y, Af, qf, HY, hA5, hbw, hq5, HYF, _, _, _, _, _, _, ef0⟩ := H.out.wi hk
  subst hA5
  have hyv := (LoOk.wi okm.lo hk).2
  rw [HY.out] at hyv
  have hyl : y.form.length ≤ maxLen := by
    have h1 := (hs.wn (l.ws.getD k0 Wi.o) (getD_mem7 hk)).2
    rw [HY.out] at h1
    exact h1
  obtain ⟨is, his⟩ : ∃ z, evF1 (vf x) y.form = z := ⟨_, rfl⟩
  have hok := hol_ok (m := l.m) (f := y.form) (vs := x) (errF_all okm.lo.m fun g hg => by rw [List.mem_singleton] at hg; rw [hg]; exact hyv) hxl
  rw [his] at hok
  have hkb : kndB is Q = kd := by rw [← hkd]; unfold kndN; rw [HY.out, his, hQ]
  have HOK := hide hok
  have HKB := hide hkb
  have HCN := hide hcn
  have HYL := hide hyl
  have hws60 := okm.lo.w60
  have d1 : decide ((k0 : Int) < 0) = false := by simp
  have d2 : decide ((l.ws.length : Int) ≤ (k0 : Int)) = false := by simp; omega
  have n0 : ((0 : Int) != 0) = false := by decide
  have ik0 : (0 : Int) ≤ (k0 : Int) := by omega
  have ik1 : (k0 : Int) < (l.ws.length : Int) := by omega
  have iq5 : (l.ws.length : Int) ≤ (q5 : Int) := by omega
  clear h hs hm hd hx hkd okm hpe hD hDm hQ hcn hyv hyl his hok hkb hb hxl hq5
  go_enter Tryz.func33, Tryz.ntmps33
  go_upto_region 1 with (fail)
  generalize hw0 : World.alloc _ _ = w0
  obtain ⟨hb0, hB0, hs0⟩ := alloc1 hw0
  have HB0 := hide hB0
  have HL0 : Hid (LoBox w0 w.heap.size A0 A1 A2 A3 A4 (some ⟨bw, ow, none⟩) q0 q1 q2 q3 q4 q5 l) := hb0
  have c0 := cellOf hb0 0; have c1 := cellOf hb0 1; have c2 := cellOf hb0 2; have c3 := cellOf hb0 3; have c4 := cellOf hb0 4; have c5 := cellOf hb0 5
  have hlb := box_lt hb0
  clear hw0 hb0 hB0 hs0
  go_upto_region 4 with (go_at_call 30; refine (Made_any ms x Am qm Ax qx A0 A1 A2 A3 A4 (some ⟨bw, ow, none⟩) q0 q1 q2 q3 q4 q5 l w0 HS.out HD.out (H.out.up HB0.out) (HM.out.up HB0.out) (Sl.up HX.out HB0.out)).mono ?_; rw [HPE.out, HDD.out]; rintro e w1 ⟨v1, rfl, hv1, hB1⟩; obtain ⟨A8, q8, e8⟩ := Sl.form hv1; subst e8; have HV1 := hide hv1; have HL1 := hide (HL0.out.to hB1); have HB1 := hide (Below.to HB0.out hB1 (Nat.le_refl _)); clear hv1 hB1 c0 c1 c2 c3 c4 c5 hlb)
  have c0 := cellOf HL1.out 0; have c1 := cellOf HL1.out 1; have c2 := cellOf HL1.out 2; have c3 := cellOf HL1.out 3; have c4 := cellOf HL1.out 4; have c5 := cellOf HL1.out 5
  have hlb := box_lt HL1.out
  have ef : w1.cell? ⟨bw, ow + k0 * 7 + 6, none⟩ = some (.slice Af y.form.length qf) := (HB1.out.cell (p := ⟨bw, ow + k0 * 7 + 6, none⟩) hbw).trans ef0
  have lbw : bw < w1.heap.size := Nat.lt_of_lt_of_le hbw HB1.out.size
  have H1 := hide (H.out.up HB1.out)
  have HYF1 := hide (HYF.out.up HB1.out)
  have HX1 := hide (Sl.up HX.out HB1.out)
  refine wp_region_held_drew (S := (fun w' => Below w1.heap.size w1 w')) (by kernel_rfl) ?_ (fun hHeld => ?_)
  · try dsimp only
    exact (by repeat (first | exact Below.refl _ _ | assumption | refine Below.drew ?_ | refine Below.drewN ?_ _ | refine Below.allocT ?_ (Nat.le_refl _) _ | refine Below.setCell ?_ (by simp <;> omega) _ | refine Below.to ?_ (by assumption) (Nat.le_refl _)))
  refine zT 0 rfl ?_
  try simp only [zX]
  refine zT 1 rfl ?_
  try simp only [zX]
  refine zT 2 rfl ?_
  try simp only [zX]
  refine zT 3 rfl ?_
  try simp only [zX]
  refine zT 4 rfl ?_
  try simp only [zX]
  refine zT 5 rfl ?_
  try simp only [zX]
  refine zT 6 rfl ?_
  try simp only [zX]
  refine zT 7 rfl ?_
  try simp only [zX]
  refine zT 8 rfl ?_
  try simp only [zX]
  refine wpAnyH_ready (rs := [9]) (by kernel_rfl) (by simp) ?_
  refine AllReadyH.cons rfl (fun K hK => ?_) AllReadyH.nil
  go_simp
  ((go_at_call 37; refine (Holds_any l.m y.form x _ _ _ _ _ HS.out.m HYL.out (H1.out.up (by repeat (first | exact Below.refl _ _ | assumption | refine Below.drew ?_ | refine Below.drewN ?_ _ | refine Below.allocT ?_ (Nat.le_refl _) _ | refine Below.setCell ?_ (by simp <;> omega) _ | refine Below.to ?_ (by assumption) (Nat.le_refl _)))).m (HYF1.out.up (by repeat (first | exact Below.refl _ _ | assumption | refine Below.drew ?_ | refine Below.drewN ?_ _ | refine Below.allocT ?_ (Nat.le_refl _) _ | refine Below.setCell ?_ (by simp <;> omega) _ | refine Below.to ?_ (by assumption) (Nat.le_refl _)))) (Sl.up HX1.out (by repeat (first | exact Below.refl _ _ | assumption | refine Below.drew ?_ | refine Below.drewN ?_ _ | refine Below.allocT ?_ (Nat.le_refl _) _ | refine Below.setCell ?_ (by simp <;> omega) _ | refine Below.to ?_ (by assumption) (Nat.le_refl _))))).mono ?_; rw [HOK.out.1, HOK.out.2]; rintro e w2 ⟨rfl, hB2⟩))
  (try dsimp only)
  refine hK.out _ _ ?_ (fun hNext => ?_)
  · try dsimp only
    exact (by repeat (first | exact Below.refl _ _ | assumption | refine Below.drew ?_ | refine Below.drewN ?_ _ | refine Below.allocT ?_ (Nat.le_refl _) _ | refine Below.setCell ?_ (by simp <;> omega) _ | refine Below.to ?_ (by assumption) (Nat.le_refl _)))
  clear hK K hHeld
  have hHeld := hNext
  clear hNext
  (try dsimp only at hHeld)
  try simp only [zX]
  refine zT 10 rfl ?_
  try simp only [zX]
  refine zT 11 rfl ?_
  try simp only [zX]
  refine zT 12 rfl ?_
  try simp only [zX]
  refine zT 13 rfl ?_
  try simp only [zX]
  refine zT 14 rfl ?_
  try simp only [zX]
  refine wpAnyH_done (by kernel_rfl) ?_ _
  have HV2 := hide (Sl.up HV1.out hHeld)
  have HB2 := hide (Below.to HB1.out hHeld (Nat.le_refl _))
  clear hHeld c0 c1 c2 c3 c4 c5 hlb ef lbw H1 HYF1 HX1
  obtain ⟨W2, hW2⟩ : ∃ wo : World, wo = w2 := ⟨_, rfl⟩
  subst hW2
  go_wp2_with fail
  go_loopw [14, 15] (fun n i wr => ∃ (k s : Nat), n = .int .i64 s ∧ i = .int .i64 k ∧ k ≤ D.length ∧ s ≤ Q ∧ Hid (s + cntD D k0 k = Q) ∧ Hid (Below W2.heap.size W2 wr)) (fun _ i _ => D.length - (intOf i).toNat)
  case atStart => exact ⟨0, 0, rfl, rfl, Nat.zero_le _, Nat.zero_le _, by show _ = _; rw [HCN.out, Nat.zero_add], Below.refl _ _⟩
  case round =>
    obtain ⟨k, s, rfl, rfl, hk, hsQ, HS2, HW⟩ := hrel
    have HBW := hide (Below.to HB2.out HW.out (Nat.le_refl _))
    by_cases hkl : k < D.length
    case pos =>
      have hkl1 : (k : Int) < (D.length : Int) := by omega
      have ikk : (0 : Int) ≤ (k : Int) := by omega
      obtain ⟨b1, o1, j, HJ, hA1, hb1, hq1, ej0⟩ := Nods.at8 HV2.out hkl
      subst hA1
      have ej := (HW.out.cell (p := ⟨b1, o1 + k, none⟩) hb1).trans ej0
      have lb1 : b1 < wr.heap.size := Nat.lt_of_lt_of_le hb1 HW.out.size
      have iq1 : (D.length : Int) ≤ (q8 : Int) := by omega
      have hst := cntD_step (w := k0) hkl
      rw [HJ.out] at hst
      have h2 := HS2.out
      rw [hst] at h2
      clear ej0 hq1 HS2
      by_cases hc : j = k0
      · have hc1 : (j == k0) = true := by simpa using hc
        have hc2 : ((j : Int) == (k0 : Int)) = true := by simp; omega
        rw [hc1, if_pos rfl] at h2
        have haQ2 : s + 1 ≤ Q := by omega
        have HA : Hid (s + 1 + cntD D k0 (k + 1) = Q) := by show _ = _; omega
        clear h2 hst hc hc1
        go_wp2_with fail
        go_roundw
        case rel => exact ⟨k + 1, s + 1, by go_num, by go_num, by omega, haQ2, HA, HW⟩
        case measure => simp [intOf]; omega
      · have hc1 : (j == k0) = false := by simpa using hc
        have hc2 : ((j : Int) == (k0 : Int)) = false := by simp; omega
        rw [hc1, if_neg (by simp)] at h2
        have HA : Hid (s + cntD D k0 (k + 1) = Q) := by show _ = _; omega
        clear h2 hst hc hc1
        go_wp2_with fail
        go_roundw
        case rel => exact ⟨k + 1, s, by go_num, by go_num, by omega, hsQ, HA, HW⟩
        case measure => simp [intOf]; omega
    case neg =>
      have hkl1 : ¬ (k : Int) < (D.length : Int) := by omega
      have hs3 : s = Q := by
        have h1 := HS2.out
        rw [cntD_end (by omega)] at h1
        omega
      subst hs3
      clear hkl HS2 HCN hsQ
      cases is with
      | true =>
        rcases (by omega : s = 0 ∨ s = 1 ∨ 1 < s) with hc | hc | hc
        · have hk9 : kd = 1 := by rw [← HKB.out, hc]; rfl
          have f0 : ((s : Int) == 0) = true := by simp; omega
          have f1 : decide ((0 : Int) < (s : Int)) = false := by simp; omega
          have f1b : decide (0 < s) = false := by simp; omega
          have f2 : decide ((1 : Int) < (s : Int)) = false := by simp; omega
          have f2b : decide (1 < s) = false := by simp; omega
          subst hk9
          clear hc
          go_wp2_with fail
          go_ret2
          exact ⟨rfl, HBW.out⟩
        · have hk9 : kd = 0 := by rw [← HKB.out, hc]; rfl
          have f0 : ((s : Int) == 0) = false := by simp; omega
          have f1 : decide ((0 : Int) < (s : Int)) = true := by simp; omega
          have f1b : decide (0 < s) = true := by simp; omega
          have f2 : decide ((1 : Int) < (s : Int)) = false := by simp; omega
          have f2b : decide (1 < s) = false := by simp; omega
          subst hk9
          clear hc
          go_wp2_with fail
          go_ret2
          exact ⟨rfl, HBW.out⟩
        · have hk9 : kd = 3 := by rw [← HKB.out]; unfold kndB; rw [if_neg (by intro h; omega), if_neg (by simp), if_pos hc]
          have f0 : ((s : Int) == 0) = false := by simp; omega
          have f1 : decide ((0 : Int) < (s : Int)) = true := by simp; omega
          have f1b : decide (0 < s) = true := by simp; omega
          have f2 : decide ((1 : Int) < (s : Int)) = true := by simp; omega
          have f2b : decide (1 < s) = true := by simp; omega
          subst hk9
          clear hc
          go_wp2_with fail
          go_ret2
          exact ⟨rfl, HBW.out⟩
      | false =>
        rcases (by omega : s = 0 ∨ 0 < s) with hc | hc
        · have hk9 : kd = 0 := by rw [← HKB.out, hc]; rfl
          have f0 : ((s : Int) == 0) = true := by simp; omega
          have f1 : decide ((0 : Int) < (s : Int)) = false := by simp; omega
          have f1b : decide (0 < s) = false := by simp; omega
          have f2 : decide ((1 : Int) < (s : Int)) = false := by simp; omega
          have f2b : decide (1 < s) = false := by simp; omega
          subst hk9
          clear hc
          go_wp2_with fail
          go_ret2
          exact ⟨rfl, HBW.out⟩
        · have hk9 : kd = 2 := by rw [← HKB.out]; unfold kndB; rw [if_neg (by simp), if_pos ⟨rfl, hc⟩]
          have f0 : ((s : Int) == 0) = false := by simp; omega
          have f1 : decide ((0 : Int) < (s : Int)) = true := by simp; omega
          have f1b : decide (0 < s) = true := by simp; omega
          subst hk9
          clear hc
          go_wp2_with fail
          go_ret2
          exact ⟨rfl, HBW.out⟩
end Go.Proofs.YtehadoecnmfeoaaGreat
/- How large a loom and modules are: walk. -/
namespace Go.Proofs.YtehadoecnmfeoaaGreat
open Go.RowKit
set_option linter.unusedVariables false
set_option linter.unusedSimpArgs false
def lrgB (l : Lo) (ms : List Md) : Bool := largeB l.m || (decide (12 < l.ws.length) && decide (l.ws.length ≤ 60)) || (decide (8 < ms.length) && decide (ms.length ≤ 60))
theorem lrg_small {l : Lo} {ms : List Md} (h : lrgB l ms = false) (he : l.m.err = 0) : l.m.opts.length ≤ 9 ∧ l.m.rules.length ≤ 12 := by
  unfold lrgB at h
  simp only [Bool.or_eq_false_iff] at h
  exact large_small h.1.1 he
set_option maxRecDepth 100000 in
set_option maxHeartbeats 4000000 in
theorem large12_any (ms : List Md) (Am : Option Addr) (qm : Nat) (A0 A1 A2 A3 A4 A5 : Option Addr) (q0 q1 q2 q3 q4 q5 : Nat) (l : Lo) (w : World) (h : LoA w w.heap.size A0 A1 A2 A3 A4 A5 q0 q1 q2 q3 q4 q5 l) :
    Calls Tryz.prog 14 #[.agg #[.slice A0 l.m.opts.length q0, .slice A1 l.m.rules.length q1, .slice A2 l.ss.length q2, .slice A3 l.us.length q3, .slice A4 l.ps.length q4, .slice A5 l.ws.length q5], .slice Am ms.length qm] w fun e w' => e = .returned (.bool (lrgB l ms)) ∧ Below w.heap.size w w' := by
  have H := hide h
  clear h
  cases hlg : largeB l.m with
  | true =>
    have HLG := hide hlg
    have HLB := hide hlg
    clear hlg
    have hr : lrgB l ms = true := by unfold lrgB; rw [HLG.out]; rfl
    have HR := hide hr
    clear hr HLB
    go_enter Tryz.func14, Tryz.ntmps14
    go_upto_region 1 with (fail)
    generalize hw0 : World.alloc _ _ = w0
    obtain ⟨hb0, hB0, hs0⟩ := alloc1 hw0
    have HB0 := hide hB0
    have HL0 : Hid (LoBox w0 w.heap.size A0 A1 A2 A3 A4 A5 q0 q1 q2 q3 q4 q5 l) := hb0
    have c0 := cellOf hb0 0; have c1 := cellOf hb0 1; have c2 := cellOf hb0 2; have c3 := cellOf hb0 3; have c4 := cellOf hb0 4; have c5 := cellOf hb0 5
    have hlb := box_lt hb0
    clear hw0 hb0 hB0 hs0
    go_wp2_with (go_at_call 51; refine (Large_any l.m _ _ _ (H.out.up HB0.out).m).mono ?_; rw [HLG.out]; rintro e w1 ⟨rfl, hB1⟩; have HL1 := hide (HL0.out.to hB1); have HB1 := hide (Below.to HB0.out hB1 (Nat.le_refl _)); clear hB1 c0 c1 c2 c3 c4 c5 hlb; have c0 := cellOf HL1.out 0; have c1 := cellOf HL1.out 1; have c2 := cellOf HL1.out 2; have c3 := cellOf HL1.out 3; have c4 := cellOf HL1.out 4; have c5 := cellOf HL1.out 5; have hlb := box_lt HL1.out)
    go_ret
    exact ⟨ret_bool HR.out.symm, HB1.out⟩
  | false =>
    have HLG := hide hlg
    have HLB := hide hlg
    clear hlg
    by_cases c1 : (12 : Int) < (l.ws.length : Int)
    · by_cases c2 : (l.ws.length : Int) ≤ 60
      · skip
        have hr : lrgB l ms = true := by unfold lrgB; rw [HLG.out, decide_eq_true (show 12 < l.ws.length by omega), decide_eq_true (show l.ws.length ≤ 60 by omega)]; rfl
        have d1 : decide ((12 : Int) < (l.ws.length : Int)) = true := decide_eq_true c1
        have d2 : decide ((l.ws.length : Int) ≤ 60) = true := decide_eq_true c2
        have HR := hide hr
        clear hr HLB
        go_enter Tryz.func14, Tryz.ntmps14
        go_upto_region 1 with (fail)
        generalize hw0 : World.alloc _ _ = w0
        obtain ⟨hb0, hB0, hs0⟩ := alloc1 hw0
        have HB0 := hide hB0
        have HL0 : Hid (LoBox w0 w.heap.size A0 A1 A2 A3 A4 A5 q0 q1 q2 q3 q4 q5 l) := hb0
        have c0 := cellOf hb0 0; have c1 := cellOf hb0 1; have c2 := cellOf hb0 2; have c3 := cellOf hb0 3; have c4 := cellOf hb0 4; have c5 := cellOf hb0 5
        have hlb := box_lt hb0
        clear hw0 hb0 hB0 hs0
        go_wp2_with (go_at_call 51; refine (Large_any l.m _ _ _ (H.out.up HB0.out).m).mono ?_; rw [HLG.out]; rintro e w1 ⟨rfl, hB1⟩; have HL1 := hide (HL0.out.to hB1); have HB1 := hide (Below.to HB0.out hB1 (Nat.le_refl _)); clear hB1 c0 c1 c2 c3 c4 c5 hlb; have c0 := cellOf HL1.out 0; have c1 := cellOf HL1.out 1; have c2 := cellOf HL1.out 2; have c3 := cellOf HL1.out 3; have c4 := cellOf HL1.out 4; have c5 := cellOf HL1.out 5; have hlb := box_lt HL1.out)
        go_ret
        exact ⟨ret_bool HR.out.symm, HB1.out⟩
      · skip
        by_cases c3 : (8 : Int) < (ms.length : Int)
        · skip
          have hr : lrgB l ms = decide ((ms.length : Int) ≤ 60) := by unfold lrgB; rw [HLG.out, decide_eq_false (show ¬ l.ws.length ≤ 60 by omega), Bool.and_false, decide_eq_true (show 8 < ms.length by omega), Bool.false_or, Bool.true_and]; exact decide_eq_decide.2 (by omega)
          have d1 : decide ((12 : Int) < (l.ws.length : Int)) = true := decide_eq_true c1
          have d2 : decide ((l.ws.length : Int) ≤ 60) = false := decide_eq_false c2
          have d3 : decide ((8 : Int) < (ms.length : Int)) = true := decide_eq_true c3
          have HR := hide hr
          clear hr HLB
          go_enter Tryz.func14, Tryz.ntmps14
          go_upto_region 1 with (fail)
          generalize hw0 : World.alloc _ _ = w0
          obtain ⟨hb0, hB0, hs0⟩ := alloc1 hw0
          have HB0 := hide hB0
          have HL0 : Hid (LoBox w0 w.heap.size A0 A1 A2 A3 A4 A5 q0 q1 q2 q3 q4 q5 l) := hb0
          have c0 := cellOf hb0 0; have c1 := cellOf hb0 1; have c2 := cellOf hb0 2; have c3 := cellOf hb0 3; have c4 := cellOf hb0 4; have c5 := cellOf hb0 5
          have hlb := box_lt hb0
          clear hw0 hb0 hB0 hs0
          go_wp2_with (go_at_call 51; refine (Large_any l.m _ _ _ (H.out.up HB0.out).m).mono ?_; rw [HLG.out]; rintro e w1 ⟨rfl, hB1⟩; have HL1 := hide (HL0.out.to hB1); have HB1 := hide (Below.to HB0.out hB1 (Nat.le_refl _)); clear hB1 c0 c1 c2 c3 c4 c5 hlb; have c0 := cellOf HL1.out 0; have c1 := cellOf HL1.out 1; have c2 := cellOf HL1.out 2; have c3 := cellOf HL1.out 3; have c4 := cellOf HL1.out 4; have c5 := cellOf HL1.out 5; have hlb := box_lt HL1.out)
          go_ret
          exact ⟨ret_bool HR.out.symm, HB1.out⟩
        · skip
          have hr : lrgB l ms = false := by unfold lrgB; rw [HLG.out, decide_eq_false (show ¬ l.ws.length ≤ 60 by omega), Bool.and_false, decide_eq_false (show ¬ 8 < ms.length by omega)]; simp
          have d1 : decide ((12 : Int) < (l.ws.length : Int)) = true := decide_eq_true c1
          have d2 : decide ((l.ws.length : Int) ≤ 60) = false := decide_eq_false c2
          have d3 : decide ((8 : Int) < (ms.length : Int)) = false := decide_eq_false c3
          have HR := hide hr
          clear hr HLB
          go_enter Tryz.func14, Tryz.ntmps14
          go_upto_region 1 with (fail)
          generalize hw0 : World.alloc _ _ = w0
          obtain ⟨hb0, hB0, hs0⟩ := alloc1 hw0
          have HB0 := hide hB0
          have HL0 : Hid (LoBox w0 w.heap.size A0 A1 A2 A3 A4 A5 q0 q1 q2 q3 q4 q5 l) := hb0
          have c0 := cellOf hb0 0; have c1 := cellOf hb0 1; have c2 := cellOf hb0 2; have c3 := cellOf hb0 3; have c4 := cellOf hb0 4; have c5 := cellOf hb0 5
          have hlb := box_lt hb0
          clear hw0 hb0 hB0 hs0
          go_wp2_with (go_at_call 51; refine (Large_any l.m _ _ _ (H.out.up HB0.out).m).mono ?_; rw [HLG.out]; rintro e w1 ⟨rfl, hB1⟩; have HL1 := hide (HL0.out.to hB1); have HB1 := hide (Below.to HB0.out hB1 (Nat.le_refl _)); clear hB1 c0 c1 c2 c3 c4 c5 hlb; have c0 := cellOf HL1.out 0; have c1 := cellOf HL1.out 1; have c2 := cellOf HL1.out 2; have c3 := cellOf HL1.out 3; have c4 := cellOf HL1.out 4; have c5 := cellOf HL1.out 5; have hlb := box_lt HL1.out)
          go_ret
          exact ⟨ret_bool HR.out.symm, HB1.out⟩
    · skip
      by_cases c3 : (8 : Int) < (ms.length : Int)
      · skip
        have hr : lrgB l ms = decide ((ms.length : Int) ≤ 60) := by unfold lrgB; rw [HLG.out, decide_eq_false (show ¬ 12 < l.ws.length by omega), Bool.false_and, decide_eq_true (show 8 < ms.length by omega), Bool.false_or, Bool.true_and]; exact decide_eq_decide.2 (by omega)
        have d1 : decide ((12 : Int) < (l.ws.length : Int)) = false := decide_eq_false c1
        have d3 : decide ((8 : Int) < (ms.length : Int)) = true := decide_eq_true c3
        have HR := hide hr
        clear hr HLB
        go_enter Tryz.func14, Tryz.ntmps14
        go_upto_region 1 with (fail)
        generalize hw0 : World.alloc _ _ = w0
        obtain ⟨hb0, hB0, hs0⟩ := alloc1 hw0
        have HB0 := hide hB0
        have HL0 : Hid (LoBox w0 w.heap.size A0 A1 A2 A3 A4 A5 q0 q1 q2 q3 q4 q5 l) := hb0
        have c0 := cellOf hb0 0; have c1 := cellOf hb0 1; have c2 := cellOf hb0 2; have c3 := cellOf hb0 3; have c4 := cellOf hb0 4; have c5 := cellOf hb0 5
        have hlb := box_lt hb0
        clear hw0 hb0 hB0 hs0
        go_wp2_with (go_at_call 51; refine (Large_any l.m _ _ _ (H.out.up HB0.out).m).mono ?_; rw [HLG.out]; rintro e w1 ⟨rfl, hB1⟩; have HL1 := hide (HL0.out.to hB1); have HB1 := hide (Below.to HB0.out hB1 (Nat.le_refl _)); clear hB1 c0 c1 c2 c3 c4 c5 hlb; have c0 := cellOf HL1.out 0; have c1 := cellOf HL1.out 1; have c2 := cellOf HL1.out 2; have c3 := cellOf HL1.out 3; have c4 := cellOf HL1.out 4; have c5 := cellOf HL1.out 5; have hlb := box_lt HL1.out)
        go_ret
        exact ⟨ret_bool HR.out.symm, HB1.out⟩
      · skip
        have hr : lrgB l ms = false := by unfold lrgB; rw [HLG.out, decide_eq_false (show ¬ 12 < l.ws.length by omega), Bool.false_and, decide_eq_false (show ¬ 8 < ms.length by omega)]; simp
        have d1 : decide ((12 : Int) < (l.ws.length : Int)) = false := decide_eq_false c1
        have d3 : decide ((8 : Int) < (ms.length : Int)) = false := decide_eq_false c3
        have HR := hide hr
        clear hr HLB
        go_enter Tryz.func14, Tryz.ntmps14
        go_upto_region 1 with (fail)
        generalize hw0 : World.alloc _ _ = w0
        obtain ⟨hb0, hB0, hs0⟩ := alloc1 hw0
        have HB0 := hide hB0
        have HL0 : Hid (LoBox w0 w.heap.size A0 A1 A2 A3 A4 A5 q0 q1 q2 q3 q4 q5 l) := hb0
        have c0 := cellOf hb0 0; have c1 := cellOf hb0 1; have c2 := cellOf hb0 2; have c3 := cellOf hb0 3; have c4 := cellOf hb0 4; have c5 := cellOf hb0 5
        have hlb := box_lt hb0
        clear hw0 hb0 hB0 hs0
        go_wp2_with (go_at_call 51; refine (Large_any l.m _ _ _ (H.out.up HB0.out).m).mono ?_; rw [HLG.out]; rintro e w1 ⟨rfl, hB1⟩; have HL1 := hide (HL0.out.to hB1); have HB1 := hide (Below.to HB0.out hB1 (Nat.le_refl _)); clear hB1 c0 c1 c2 c3 c4 c5 hlb; have c0 := cellOf HL1.out 0; have c1 := cellOf HL1.out 1; have c2 := cellOf HL1.out 2; have c3 := cellOf HL1.out 3; have c4 := cellOf HL1.out 4; have c5 := cellOf HL1.out 5; have hlb := box_lt HL1.out)
        go_ret
        exact ⟨ret_bool HR.out.symm, HB1.out⟩
end Go.Proofs.YtehadoecnmfeoaaGreat
/- The first variant that has a wire though it should not: walk. -/
namespace Go.Proofs.YtehadoecnmfeoaaGreat
open Go.RowKit
set_option linter.unusedVariables false
set_option linter.unusedSimpArgs false
theorem imp_head (m : Mo) (f g : List Int) : (impL m f g).head? = (allM m).find? fun x => evF1 (vf x) f && !evF1 (vf x) g := by
  unfold impL
  rw [satM_all, head_find]
theorem mee_head (m : Mo) (L : List (List Int)) : (meeL m L).head? = (allM m).find? fun x => allF (vf x) L := by
  unfold meeL
  rw [satM_all, head_find]
theorem allM_len6 {m : Mo} {x : List Bool} (h : x ∈ allM m) : x.length = m.opts.length := by
  have h1 := (List.mem_filter.1 h).1
  have h2 := exts_len _ _ _ h1
  simpa using h2
theorem find_len {m : Mo} {p : List Bool → Bool} {x : List Bool} (h : (allM m).find? p = some x) : x.length = m.opts.length := allM_len6 (List.mem_of_find?_eq_some h)
theorem empty_head {α : Type} (l : List α) : l.isEmpty = l.head?.isNone := by cases l <;> rfl
/-- One formula of a list. -/
theorem Forms.at7 {w : World} {B n q : Nat} {A : Option Addr} {L : List (List Int)} (h : Forms w B (.slice A n q) L) {k : Nat} (hk : k < L.length) : ∃ b off f Af qf, Hid (L.getD k [] = f) ∧ A = some ⟨b, off, none⟩ ∧ b < B ∧ L.length ≤ q ∧ Hid (Ints w B (.slice Af f.length qf) f) ∧ w.cell? ⟨b, off + k, none⟩ = some (.slice Af f.length qf) := by
  obtain ⟨fv, hs, hf⟩ := h
  obtain ⟨h1, h2, b, off, h3, h4, h5⟩ := sl_at hs hk
  have hx := hf k hk
  obtain ⟨Af, qf, e⟩ := Sl.form hx
  have c0 := h5 0 (by omega)
  rw [Nat.mul_one, Nat.add_zero, e] at c0
  rw [e] at hx
  exact ⟨b, off, _, Af, qf, rfl, h3, h4, by omega, hx, c0⟩
theorem LoBox.grown {w w' : World} {lb b t : Nat} {A0 A1 A2 A3 A4 A5 : Option Addr} {q0 q1 q2 q3 q4 q5 : Nat} {l : Lo} {cv : Value} (h : LoBox w lb A0 A1 A2 A3 A4 A5 q0 q1 q2 q3 q4 q5 l) (hb : w.heap[b]? = some (.cells #[cv] t (0, 0))) (ht : t ≠ 31) (hg : w.grownBy w' (some b)) : LoBox w' lb A0 A1 A2 A3 A4 A5 q0 q1 q2 q3 q4 q5 l := by
  refine (hg.block lb (box_lt h) (fun e => ?_)).trans h
  injection e with e
  subst e
  have h1 : w.heap[lb]? = _ := h
  rw [hb] at h1
  injection h1 with h1
  injection h1 with _ h1
  exact ht h1
set_option maxRecDepth 100000 in
set_option maxHeartbeats 4000000 in
theorem extra_any (k0 : Nat) (fs : List (List Int)) (Aw : Option Addr) (qw : Nat) (A0 A1 A2 A3 A4 A5 : Option Addr) (q0 q1 q2 q3 q4 q5 : Nat) (l : Lo) (w : World) (hs : SizedL l) (h : LoA w w.heap.size A0 A1 A2 A3 A4 A5 q0 q1 q2 q3 q4 q5 l) (ok : LoOk l) (hk : k0 < l.ws.length) (hf : Forms w w.heap.size (.slice Aw fs.length qw) fs) (h60 : fs.length ≤ 60) (hv : ∀ f ∈ fs, validF l.m.opts.length f = true) (hN : l.m.opts.length ≤ 12) :
    Calls Tryz.prog 57 #[.agg #[.slice A0 l.m.opts.length q0, .slice A1 l.m.rules.length q1, .slice A2 l.ss.length q2, .slice A3 l.us.length q3, .slice A4 l.ps.length q4, .slice A5 l.ws.length q5], .int .i64 k0, .slice Aw fs.length qw] w (LokP (frstV l.m (l.ws.getD k0 Wi.o).form fs 2) w) := by
  obtain ⟨bw, offw, x, Af, qf, HX, hA, hbw, hq5, HFO, e0, e1, e2, e3, e4, e5, e6⟩ := h.wi hk
  subst hA
  rw [HX.out]
  have hxv : validF l.m.opts.length x.form = true := by
    have h1 := (LoOk.wi ok hk).2
    rw [HX.out] at h1
    exact h1
  have hxl : x.form.length ≤ maxLen := (hs.wn x (by rw [← HX.out]; exact getD_mem7 hk)).2
  obtain ⟨res, hres⟩ : ∃ r, frstV l.m x.form fs 2 = r := ⟨_, rfl⟩
  rw [hres]
  have HRES := hide hres
  have H := hide h
  have HS := hide hs
  have HF := hide hf
  have HV := hide hv
  have HXV := hide hxv
  have OK := hide ok
  have E6 := hide e6
  have ii : (k0 : Int) < (l.ws.length : Int) := by omega
  have ik0 : (0 : Int) ≤ (k0 : Int) := by omega
  have iq : (l.ws.length : Int) ≤ (q5 : Int) := by omega
  clear h hs hf hv hxv ok hres e0 e1 e2 e3 e4 e5 e6 hq5
  go_enter Tryz.func57, Tryz.ntmps57
  go_upto_region 2 with (fail)
  generalize hw0 : World.alloc _ _ = w0
  obtain ⟨hb0, hb1, hB0, hs0⟩ := alloc2 hw0
  have HL0 : Hid (LoBox w0 w.heap.size A0 A1 A2 A3 A4 (some ⟨bw, offw, none⟩) q0 q1 q2 q3 q4 q5 l) := hb0
  have HE0 : Hid (EarAt w0 (w.heap.size + 1) l.m.opts.length (xtrV l.m x.form fs 0)) := by
    rw [xtrV_zero]
    exact ⟨_, hb1, rfl, fun x hx => by cases hx⟩
  have HB0 := hide hB0
  clear hw0 hb0 hb1 hB0 hs0
  go_wp2_with fail
  go_loopw [9, 10, 11, 12, 15] (fun _ _ _ _ i wr => ∃ k : Nat, i = .int .i64 k ∧ k ≤ fs.length ∧ Hid (Below w.heap.size w wr) ∧ Hid (LoBox wr w.heap.size A0 A1 A2 A3 A4 (some ⟨bw, offw, none⟩) q0 q1 q2 q3 q4 q5 l) ∧ Hid (EarAt wr (w.heap.size + 1) l.m.opts.length (xtrV l.m x.form fs k))) (fun _ _ _ _ i _ => fs.length - (intOf i).toNat)
  case atStart => exact ⟨0, rfl, Nat.zero_le _, HB0.out, HL0.out, HE0.out⟩
  case round =>
    obtain ⟨k, rfl, hk2, HB, HL, HE⟩ := hrel
    by_cases hkl : k < fs.length
    · obtain ⟨bf, off, f, Ag, qg, HFK, hA2, hbf, hqf, HG, ef⟩ := HF.out.at7 hkl
      subst hA2
      have hfv : validF l.m.opts.length f = true := by rw [← HFK.out]; exact HV.out _ (getD_mem7 hkl)
      have hfl : f.length ≤ maxLen := by have := (validF_pos hfv).2; unfold maxLen; omega
      have z0 := (HB.out.cell (p := ⟨bf, off + k, none⟩) hbf).trans ef
      have lbf : bf < wr.heap.size := Nat.lt_of_lt_of_le hbf HB.out.size
      have i0 : (0 : Int) ≤ (k : Int) := by omega
      have i1 : (k : Int) < (fs.length : Int) := by omega
      have iqf : (fs.length : Int) ≤ (qw : Int) := by omega
      have hef : l.m.errF [f, x.form] = 0 := errF_all OK.out.m (fun g hg => by
        rcases List.mem_cons.1 hg with h1 | h1
        · rw [h1]; exact hfv
        · rw [List.mem_singleton] at h1; rw [h1]; exact HXV.out)
      obtain ⟨o, ho⟩ : ∃ o, (impL l.m f x.form).head? = o := ⟨_, rfl⟩
      have hoe : (impL l.m f x.form).isEmpty = o.isNone := by rw [empty_head, ho]
      have hstep : xtrV l.m x.form fs (k + 1) = soon (xtrV l.m x.form fs k) o := by rw [xtrV_step hkl, ← ho, imp_head, HFK.out]
      have hol : ∀ y, o = some y → y.length = l.m.opts.length := fun y hy => by
        rw [imp_head] at ho
        exact find_len (ho.trans hy)
      have HEF := hide hef
      have HO := hide ho
      have HOE := hide hoe
      have HST := hide hstep
      have HOL := hide hol
      clear hfv hqf ef hef ho hoe hstep hol
      go_upto_region 5 with (fail)
      clear z0 lbf hbf
      have g6 := (HB.out.cell (p := ⟨bw, offw + k0 * 7 + 6, none⟩) hbw).trans E6.out
      have lbw : bw < wr.heap.size := Nat.lt_of_lt_of_le hbw HB.out.size
      have c0 := cellOf HL.out 0; have c1 := cellOf HL.out 1; have c2 := cellOf HL.out 2; have c3 := cellOf HL.out 3; have c4 := cellOf HL.out 4; have c5 := cellOf HL.out 5
      have lc := box_lt HL.out
      have HHr := hide (H.out.up HB.out)
      have HGr := hide (HG.out.up HB.out)
      have HXr := hide (HFO.out.up HB.out)
      refine wp_region_held_drew (S := (fun w' => Below wr.heap.size wr w')) (by kernel_rfl) ?_ (fun hHeld => ?_)
      · try dsimp only
        exact (by repeat (first | exact Below.refl _ _ | assumption | refine Below.drew ?_ | refine Below.drewN ?_ _ | refine Below.allocT ?_ (Nat.le_refl _) _ | refine Below.setCell ?_ (by simp <;> omega) _ | refine Below.to ?_ (by assumption) (Nat.le_refl _)))
      refine zT 0 rfl ?_
      try simp only [zX]
      refine zT 1 rfl ?_
      try simp only [zX]
      refine zT 2 rfl ?_
      try simp only [zX]
      refine zT 3 rfl ?_
      try simp only [zX]
      refine zT 4 rfl ?_
      try simp only [zX]
      refine zT 5 rfl ?_
      try simp only [zX]
      refine zT 6 rfl ?_
      try simp only [zX]
      refine zT 7 rfl ?_
      try simp only [zX]
      refine zT 8 rfl ?_
      try simp only [zX]
      refine wpAnyH_ready (rs := [9]) (by kernel_rfl) (by simp) ?_
      refine AllReadyH.cons rfl (fun K hK => ?_) AllReadyH.nil
      go_simp
      ((go_at_call 126; refine (Implies_n l.m f x.form _ _ _ _ _ HS.out.m hfl hxl (HHr.out.up hHeld).m (HGr.out.up hHeld) (HXr.out.up hHeld) HEF.out hN).mono ?_; rw [HO.out, HOE.out]; rintro e w2 ⟨v2, rfl, hop, hB2⟩))
      (try dsimp only)
      refine hK.out _ _ ?_ (fun hNext => ?_)
      · try dsimp only
        exact (by repeat (first | exact Below.refl _ _ | assumption | refine Below.drew ?_ | refine Below.drewN ?_ _ | refine Below.allocT ?_ (Nat.le_refl _) _ | refine Below.setCell ?_ (by simp <;> omega) _ | refine Below.to ?_ (by assumption) (Nat.le_refl _)))
      clear hK K hHeld
      have hHeld := hNext
      clear hNext
      (try dsimp only at hHeld)
      try simp only [zX]
      refine zT 10 rfl ?_
      try simp only [zX]
      refine zT 11 rfl ?_
      try simp only [zX]
      refine zT 12 rfl ?_
      try simp only [zX]
      refine zT 13 rfl ?_
      try simp only [zX]
      refine zT 14 rfl ?_
      try simp only [zX]
      refine zT 15 rfl ?_
      try simp only [zX]
      refine zT 16 rfl ?_
      try simp only [zX]
      refine wpAnyH_done (by kernel_rfl) ?_ _
      obtain ⟨Av, nv, qv, hv2, _⟩ := hop.form
      subst hv2
      have HOP := hide hop
      have HB2 := hide hHeld
      have HL2 := hide (HL.out.to hHeld)
      have HE2 := hide (HE.out.up hHeld)
      clear hHeld hop c0 c1 c2 c3 c4 c5 lc g6 lbw
      cases o with
      | none =>
        have hxe : xtrV l.m x.form fs (k + 1) = xtrV l.m x.form fs k := by
          rw [HST.out]
          cases xtrV l.m x.form fs k <;> rfl
        have HXE := hide hxe
        clear hxe
        go_wp2_with fail
        go_roundw
        case rel => exact ⟨k + 1, by go_num, by omega, Below.to HB.out HB2.out (Nat.le_refl _), HL2.out, by rw [HXE.out]; exact HE2.out⟩
        case measure => simp [intOf]; omega
      | some y =>
        go_wp2_with (go_at_call 127; refine (show_any (w.heap.size + 1) l.m.opts.length (xtrV l.m x.form fs k) (some y) _ w2 (by omega) HE2.out HOP.out HOL.out).mono ?_; rintro e w3 ⟨rfl, hE3, hg3⟩; have HE3 := hide hE3; have HG3 := hide hg3; clear hE3 hg3)
        go_roundw
        case rel => exact ⟨k + 1, by go_num, by omega, Below.grown (Below.to HB.out HB2.out (Nat.le_refl _)) HG3.out (Nat.le_trans HB.out.size HB2.out.size) (fun j hj => by injection hj with hj; omega), by
          obtain ⟨cv, hcv, _⟩ := HE2.out
          exact HL2.out.grown hcv (by decide) HG3.out, by rw [HST.out]; exact HE3.out⟩
        case measure => simp [intOf]; omega
    · have hke : k = fs.length := by omega
      subst hke
      obtain ⟨cv, hcv, hop, _⟩ := HE.out
      rw [xtrV_all, HRES.out] at hop
      have x0 := cellOf hcv 0
      have lx := box_lt hcv
      have HOP := hide hop
      clear hcv hop
      go_wp2_with fail
      go_ret
      exact ⟨_, rfl, HOP.out, HB.out⟩
end Go.Proofs.YtehadoecnmfeoaaGreat

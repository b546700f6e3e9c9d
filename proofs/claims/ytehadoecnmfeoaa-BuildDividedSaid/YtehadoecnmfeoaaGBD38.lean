/- Part 38 of this claim's texts: walks and plain laws. -/
import Derived.Test.YtehadoecnmfeoaaRows
import Derived.Test.YtehadoecnmfeoaaGBD34
import Derived.Test.YtehadoecnmfeoaaGBD35
import Derived.Test.YtehadoecnmfeoaaGBD31
import Derived.Test.YtehadoecnmfeoaaGBD37
import Derived.Test.YtehadoecnmfeoaaGBD15
import Derived.Deep.DeepMust
import Derived.Deep.RegionHeld3
import Derived.Deep.DrawnRows
import Derived.Test.YtehadoecnmfeoaaGBD3
import Derived.Test.YtehadoecnmfeoaaGBD18
/- What Divide returns, looked at: walk of BuildDivided. -/
namespace Go.Proofs.Ytehadoecnmfeoaa
open Go.Joins Go.ChangeShapes Go.WideShapes Go.ChangeAt Go.RowKit Go.Deep
set_option linter.unusedVariables false
set_option linter.unusedSimpArgs false
theorem divL_small9 {l : Lo} : (divL l).length ≤ 60 ∧ ∀ i, i < (divL l).length → ((divL l).getD i Md.o).ws.length ≤ 60 ∧ ((divL l).getD i Md.o).f.length ≤ 1000 := by
  unfold divL
  split
  · rename_i h
    have ok := Lo.err_ok h
    have hw := ok.w60
    have hi := divN_i l l.ws.length
    refine ⟨by have := hi.len; omega, fun i hi2 => ?_⟩
    obtain ⟨w0, t, h4, h5, h6, h7⟩ := hi.at_ i hi2
    refine ⟨by rw [h4, List.length_cons]; omega, ?_⟩
    have h8 := (LoOk.wi ok (show w0 < l.ws.length by omega)).2
    rw [h6]
    unfold fmW
    unfold validF at h8
    simp only [Bool.and_eq_true, decide_eq_true_eq] at h8
    omega
  · exact ⟨by simp, fun i hi => absurd hi (by simp)⟩
theorem cnt_some {m : Mo} {f : List Int} (h : m.errF [f] = 0) : decide ((0 : Int) < (cntE m f : Nat)) = sometB m f ∧ cntE m f ≤ (allM m).length := by
  rw [cnt_ok h]
  unfold whereF sometB
  refine ⟨?_, List.length_filter_le _ _⟩
  induction allM m with
  | nil => rfl
  | cons a t ih =>
    rw [List.filter_cons, List.any_cons, ← ih]
    cases evF1 (vf a) f with
    | true => simp
    | false => simp
set_option maxRecDepth 100000 in
set_option maxHeartbeats 8000000 in
theorem buildDivided_walk (A0 A1 A2 A3 A4 A5 : Option Addr) (q0 q1 q2 q3 q4 q5 : Nat) (l : Lo) (w : World) (hs : SizedL l) (h : LoA w w.heap.size A0 A1 A2 A3 A4 A5 q0 q1 q2 q3 q4 q5 l) :
    Calls Try.prog 5 #[.agg #[.slice A0 l.m.opts.length q0, .slice A1 l.m.rules.length q1, .slice A2 l.ss.length q2, .slice A3 l.us.length q3, .slice A4 l.ps.length q4, .slice A5 l.ws.length q5]] w fun e w' => e = .returned (.bool true) ∧ Below w.heap.size w w' := by
  obtain ⟨i0, hi0, iz0, iz1, iz2⟩ := info_parts infoInt
  have H := hide h
  have HS := hide hs
  clear h hs
  obtain ⟨lg, hlg⟩ : ∃ z, lrgB l [] = z := ⟨_, rfl⟩
  have hlarge : ∀ (W : World), LoA W W.heap.size A0 A1 A2 A3 A4 A5 q0 q1 q2 q3 q4 q5 l → Calls Try.prog 12 #[.agg #[.slice A0 l.m.opts.length q0, .slice A1 l.m.rules.length q1, .slice A2 l.ss.length q2, .slice A3 l.us.length q3, .slice A4 l.ps.length q4, .slice A5 l.ws.length q5], .slice none 0 0] W fun e w' => e = .returned (.bool lg) ∧ Below W.heap.size W w' := fun W hW => by
    have h1 := large12_any [] none 0 A0 A1 A2 A3 A4 A5 q0 q1 q2 q3 q4 q5 l W hW
    rw [hlg] at h1
    exact h1
  have HLA := hide hlarge
  clear hlarge
  cases lg with
  | true =>
    clear hlg
    go_enter Try.func5, Try.ntmps5
    go_upto_region 1 with (fail)
    generalize hw0 : World.alloc _ _ = w0
    obtain ⟨hb0, hB0, hs0⟩ := alloc1 hw0
    have HB0 := hide hB0
    have c0 := cellOf hb0 0; have c1 := cellOf hb0 1; have c2 := cellOf hb0 2; have c3 := cellOf hb0 3; have c4 := cellOf hb0 4; have c5 := cellOf hb0 5
    have hlb := box_lt hb0
    clear hw0 hb0 hB0 hs0
    go_wp2_with (first
      | (go_at_call 12; refine (HLA.out _ (H.out.up HB0.out)).mono ?_; rintro e w1 ⟨rfl, hB1⟩; have HB1 := hide (Below.to HB0.out hB1 (Nat.le_refl _)); clear hB1 c0 c1 c2 c3 c4 c5 hlb)
      | (go_at_call 7; refine (works_build _).mono ?_; rintro e w2 ⟨rfl, hB2⟩))
    go_ret
    exact ⟨rfl, Below.to HB1.out hB2 (Nat.le_refl _)⟩
  | false =>
  have HNN : Hid (l.m.err = 0 → l.m.opts.length ≤ 12) := fun he => by have := lrg_small hlg he; omega
  clear hlg
  obtain ⟨er, her⟩ : ∃ z, l.err = z := ⟨_, rfl⟩
  have HER := hide her
  by_cases he0 : er = 0
  case neg =>
    have hz1 : (er != 0) = true := by simpa using he0
    clear her he0
    go_enter Try.func5, Try.ntmps5
    go_upto_region 1 with (fail)
    generalize hw0 : World.alloc _ _ = w0
    obtain ⟨hb0, hB0, hs0⟩ := alloc1 hw0
    have HB0 := hide hB0
    have HL0 : Hid (LoBox w0 w.heap.size A0 A1 A2 A3 A4 A5 q0 q1 q2 q3 q4 q5 l) := hb0
    have c0 := cellOf hb0 0; have c1 := cellOf hb0 1; have c2 := cellOf hb0 2; have c3 := cellOf hb0 3; have c4 := cellOf hb0 4; have c5 := cellOf hb0 5
    have hlb := box_lt hb0
    clear hw0 hb0 hB0 hs0
    go_wp2_with (first
      | (go_at_call 12; refine (HLA.out _ (H.out.up HB0.out)).mono ?_; rintro e w1 ⟨rfl, hB1⟩; have HL1 := hide (HL0.out.to hB1); have HB1 := hide (Below.to HB0.out hB1 (Nat.le_refl _)); clear hB1 c0 c1 c2 c3 c4 c5 hlb; have d0 := cellOf HL1.out 0; have d1 := cellOf HL1.out 1; have d2 := cellOf HL1.out 2; have d3 := cellOf HL1.out 3; have d4 := cellOf HL1.out 4; have d5 := cellOf HL1.out 5; have hld := box_lt HL1.out)
      | (go_at_call 13; refine (Divide_any A0 A1 A2 A3 A4 A5 q0 q1 q2 q3 q4 q5 l w1 HS.out (H.out.up HB1.out) HNN.out).mono ?_; rw [HER.out]; rintro e w2 ⟨v2, rfl, hv2, hB2⟩; have HB2 := hide (Below.to HB1.out hB2 (Nat.le_refl _)); clear hv2 hB2 d0 d1 d2 d3 d4 d5 hld)
      | (go_at_call 7; refine (works_build _).mono ?_; rintro e w3 ⟨rfl, hB3⟩))
    go_ret
    exact ⟨rfl, Below.to HB2.out hB3 (Nat.le_refl _)⟩
  case pos =>
  subst he0
  have ok := Lo.err_ok her
  have OK := hide ok
  have hN := HNN.out ok.m
  have hws60 := ok.w60
  have n0 : ((0 : Int) != 0) = false := by decide
  have hsm := divL_small9 (l := l)
  have hau := div_audit her
  have hbl := div_right her
  have hin := fun w hw => div_in her (w := w) hw
  have hap := fun i j hi hj hij => div_apart her (i := i) (j := j) hi hj hij
  have hwi := fun i j hi hj => div_wire her (i := i) (j := j) hi hj
  obtain ⟨D, hD⟩ : ∃ z, divL l = z := ⟨_, rfl⟩
  rw [hD] at hsm hau hbl hin hap hwi
  obtain ⟨hD60, hDs⟩ := hsm
  have hDv : ∀ i, i < D.length → validF l.m.opts.length (D.getD i Md.o).f = true := fun i hi => by
    have h1 := (bldE_ok hbl).ok (D.getD i Md.o) (getD_mem7 hi)
    unfold rightB at h1
    exact (Bool.and_eq_true_iff.1 h1).2
  have hsd : SizedD D := ⟨by unfold maxLen; omega, fun d hd => by
    obtain ⟨k, hk, he⟩ := List.mem_iff_getElem.1 hd
    have h1 := hDs k hk
    rw [List.getD_eq_getElem?_getD, List.getElem?_eq_getElem hk, Option.getD_some, he] at h1
    unfold maxLen
    omega⟩
  have hle := inC_le (D := D) (n := 60) (fun i hi => (hDs i hi).1)
  have HDS := hide hDs
  have HDV := hide hDv
  have HSD := hide hsd
  have HAU := hide hau
  have HBL := hide hbl
  have HIN := hide hin
  have HAP := hide hap
  have HWI := hide hwi
  have HLE := hide hle
  have HD := hide hD
  obtain ⟨nw, hnw⟩ : ∃ z, l.ws.length = z := ⟨_, rfl⟩
  have hnw60 : nw ≤ 60 := by omega
  have hmk : ∀ W : World, (Instr.makeSlice 22 (.int .i64 l.ws.length) (.int .i64 l.ws.length)).run Try.prog W = .ok (.slice (some ⟨W.heap.size, 0, none⟩) l.ws.length l.ws.length) (W.alloc (.cells (madeCells #[.int .i64 0] (l.ws.length * 1)) 3)) := fun W => by
    have h1 := run_make (P := Try.prog) W 22 3 i0 (.int .i64 0) Try.underlying22 hi0 iz0 .i64 .i64 l.ws.length l.ws.length (by omega) (Int.le_refl _) (by rw [iz2]; omega) (by omega)
    rw [iz1] at h1
    simpa [Value.cells] using h1
  clear her ok hDs hDv hsd hau hbl hin hap hwi hle hD hnw hnw60
  go_enter Try.func5, Try.ntmps5
  go_upto_region 1 with (fail)
  generalize hw0 : World.alloc _ _ = w0
  obtain ⟨hb0, hB0, hs0⟩ := alloc1 hw0
  have HB0 := hide hB0
  have HL0 : Hid (LoBox w0 w.heap.size A0 A1 A2 A3 A4 A5 q0 q1 q2 q3 q4 q5 l) := hb0
  have c0 := cellOf hb0 0; have c1 := cellOf hb0 1; have c2 := cellOf hb0 2; have c3 := cellOf hb0 3; have c4 := cellOf hb0 4; have c5 := cellOf hb0 5
  have hlb := box_lt hb0
  clear hw0 hb0 hB0 hs0
  go_upto_region 7 with (first
    | (go_at_call 12; refine (HLA.out _ (H.out.up HB0.out)).mono ?_; rintro e w1 ⟨rfl, hB1⟩; have HL1 := hide (HL0.out.to hB1); have HB1 := hide (Below.to HB0.out hB1 (Nat.le_refl _)); clear hB1 c0 c1 c2 c3 c4 c5 hlb; have d0 := cellOf HL1.out 0; have d1 := cellOf HL1.out 1; have d2 := cellOf HL1.out 2; have d3 := cellOf HL1.out 3; have d4 := cellOf HL1.out 4; have d5 := cellOf HL1.out 5; have hld := box_lt HL1.out)
    | (go_at_call 13; refine (Divide_any A0 A1 A2 A3 A4 A5 q0 q1 q2 q3 q4 q5 l w1 HS.out (H.out.up HB1.out) HNN.out).mono ?_; rw [HER.out, HD.out]; rintro e w2 ⟨v2, rfl, hv2, hB2⟩; obtain ⟨Au, qu, e2⟩ := hv2.form; subst e2; have HV2 := hide hv2; have HL2 := hide (HL1.out.to hB2); have HB2 := hide (Below.to HB1.out hB2 (Nat.le_refl _)); clear hv2 hB2 d0 d1 d2 d3 d4 d5 hld; have c0 := cellOf HL2.out 0; have c1 := cellOf HL2.out 1; have c2 := cellOf HL2.out 2; have c3 := cellOf HL2.out 3; have c4 := cellOf HL2.out 4; have c5 := cellOf HL2.out 5; have hlb := box_lt HL2.out)
    | (go_at_call 14; refine (Audit_any D _ _ A0 A1 A2 A3 A4 A5 q0 q1 q2 q3 q4 q5 l w2 HS.out HSD.out (H.out.up HB2.out) HV2.out HNN.out).mono ?_; rw [HAU.out, HBL.out]; rintro e w3 ⟨he3, hB3⟩; have he4 : e = .returned (.tuple #[.agg #[.int .i64 0, .int .i64 0, .slice none 0 0], .bool false, .int .i64 0]) := he3; subst he4; have HV3 := hide (HV2.out.up hB3); have HL3 := hide (HL2.out.to hB3); have HB3 := hide (Below.to HB2.out hB3 (Nat.le_refl _)); clear he3 hB3 c0 c1 c2 c3 c4 c5 hlb))
  generalize hw4 : World.alloc _ _ = w4
  obtain ⟨hb4, hB4, hs4⟩ := alloc1 hw4
  have HV4 := hide (HV3.out.up hB4)
  have HL4 := hide (HL3.out.to hB4)
  have HB4 := hide (Below.to HB3.out hB4 (Nat.le_refl _))
  clear hw4 hb4 hB4 hs4
  obtain ⟨W4, hW4⟩ : ∃ wo : World, wo = w4 := ⟨_, rfl⟩
  subst hW4
  have c0 := cellOf HL4.out 0; have c1 := cellOf HL4.out 1; have c2 := cellOf HL4.out 2; have c3 := cellOf HL4.out 3; have c4 := cellOf HL4.out 4; have c5 := cellOf HL4.out 5
  have hlb := box_lt HL4.out
  go_upto_region 10 with (fail)
  generalize hw5 : World.alloc _ _ = w5
  obtain ⟨hb5, hB5, hs5⟩ := alloc1 hw5
  obtain ⟨gi, hgi⟩ : ∃ z, W4.heap.size = z := ⟨_, rfl⟩
  have hgw : W4.heap.size ≤ gi := Nat.le_of_eq hgi
  have hr5 := rowC_made (n := l.ws.length) hb5
  rw [rngC_zero] at hr5
  rw [hgi] at hr5 ⊢
  have HR5 := hide hr5
  have HB5 : Hid (Below W4.heap.size W4 w5) := hB5
  clear hw5 hb5 hB5 hs5 hgi hr5 hmk c0 c1 c2 c3 c4 c5 hlb
  go_wp2_with fail
  go_loopw [8, 9, 10, 11, 12, 13, 14, 15, 16, 17] (fun i _ _ _ _ _ _ _ _ _ wr => ∃ k : Nat, i = .int .i64 k ∧ k ≤ D.length ∧ Hid (RowC wr gi (rngC l.ws.length (inC D k))) ∧ Hid (Below W4.heap.size W4 wr)) (fun i _ _ _ _ _ _ _ _ _ _ => D.length - (intOf i).toNat)
  case atStart => exact ⟨0, rfl, Nat.zero_le _, HR5.out, HB5.out⟩
  case round =>
    obtain ⟨k, rfl, hk, HR, HW⟩ := hrel
    by_cases hkl : k < D.length
    case pos =>
      have hkl1 : (k : Int) < (D.length : Int) := by omega
      have ik0 : (0 : Int) ≤ (k : Int) := by omega
      obtain ⟨ws, hws⟩ : ∃ z, (D.getD k Md.o).ws = z := ⟨_, rfl⟩
      have hwl : ws.length ≤ 60 := by rw [← hws]; exact (HDS.out k hkl).1
      have HWS := hide hws
      clear hws
      go_wp2_with fail
      have HR0 : Hid (RowC wr gi (rngC l.ws.length fun b => inC D k b + occT ws 0 b)) := HR.out
      go_loopw [9, 10] (fun i _ wr => ∃ j : Nat, i = .int .i64 j ∧ j ≤ ws.length ∧ Hid (RowC wr gi (rngC l.ws.length fun b => inC D k b + occT ws j b)) ∧ Hid (Below W4.heap.size W4 wr)) (fun i _ _ => ws.length - (intOf i).toNat)
      case atStart => exact ⟨0, rfl, Nat.zero_le _, HR0, HW⟩
      case round =>
        clear HR HR0 HW
        obtain ⟨j, rfl, hj, HR, HW⟩ := hrel
        obtain ⟨b1, o1, d, Af, qf, Aw, qw, HDD, hA, hb1, hq1, HDF, HDW, e0, e1⟩ := HV4.out.at hkl
        have hdw : d.ws = ws := by rw [← HDD.out]; exact HWS.out
        have z1 := (HW.out.cell (p := ⟨b1, o1 + k * 2 + 1, none⟩) hb1).trans e1
        have lb1 : b1 < wr.heap.size := Nat.lt_of_lt_of_le hb1 HW.out.size
        have iqu : (D.length : Int) ≤ (qu : Int) := by omega
        have HDWr := hide ((HDW.out.below HW.out).more HW.out.size)
        rw [hdw] at z1
        rw [hdw] at HDWr
        subst hA
        clear e0 e1 hq1 hdw
        by_cases hjl : j < ws.length
        case pos =>
          have hjl1 : (j : Int) < (ws.length : Int) := by omega
          have ij0 : (0 : Int) ≤ (j : Int) := by omega
          obtain ⟨b2, o2, y, HY, hA2, hb2, hq2, ey⟩ := HDWr.out.at7 hjl
          subst hA2
          have iqw : (ws.length : Int) ≤ (qw : Int) := by omega
          have hyb := HWI.out k j hkl (by rw [HWS.out]; exact hjl)
          rw [HWS.out, HY.out] at hyb
          obtain ⟨c, hc⟩ : ∃ c : Nat, y = (c : Int) := ⟨y.toNat, by omega⟩
          subst hc
          have hcn : c < l.ws.length := by omega
          have ic0 : (0 : Int) ≤ (c : Int) := by omega
          have ic1 : (c : Int) < (l.ws.length : Int) := by omega
          have d1 : decide ((c : Int) < 0) = false := by simp
          have d2 : decide ((l.ws.length : Int) ≤ (c : Int)) = false := by simp; omega
          have inn : (l.ws.length : Int) ≤ (l.ws.length : Int) := Int.le_refl _
          obtain ⟨a, hae⟩ : ∃ a, inC D k c + occT ws j c = a := ⟨_, rfl⟩
          have ha : a ≤ 4000 := by
            have h1 := HLE.out k (by omega) c
            have h2 := occT_le ws j c
            omega
          have c1 := HR.out.cell (k := c) (by rw [rngC_len]; exact hcn)
          rw [rngC_at hcn, hae] at c1
          have f1 := unfrozenOf HR.out c
          have lg : gi < wr.heap.size := box_lt HR.out
          have hset : (rngC l.ws.length fun b => inC D k b + occT ws j b).set c (a + 1) = rngC l.ws.length fun b => inC D k b + occT ws (j + 1) b := by
            have h1 := rngC_set (n := l.ws.length) (f := fun b => inC D k b + occT ws j b) (g := fun b => inC D k b + occT ws (j + 1) b) (i := c) (fun b hb => by
              by_cases e : b = c
              · rw [if_pos e, e]
              · rw [if_neg e, occT_step hjl b, HY.out]
                have h2 : ((c : Int) == (b : Int)) = false := by simp; omega
                rw [h2]
                simp)
            rw [← h1]
            have h2 : occT ws (j + 1) c = occT ws j c + 1 := by
              rw [occT_step hjl c, HY.out]
              have h3 : ((c : Int) == (c : Int)) = true := by simp
              rw [h3, if_pos rfl]
            have h4 : a + 1 = inC D k c + occT ws (j + 1) c := by rw [h2]; omega
            rw [h4]
          have hnx : RowC (wr.setCell ⟨gi, c, none⟩ (.int .i64 ((a : Int) + 1))) gi (rngC l.ws.length fun b => inC D k b + occT ws (j + 1) b) := by
            have h1 := HR.out.set (k := c) (n := a + 1)
            rw [hset] at h1
            exact h1
          have hBx : Below W4.heap.size W4 (wr.setCell ⟨gi, c, none⟩ (.int .i64 ((a : Int) + 1))) := below_only HW.out (only_setCell (only_refl _ _) (.inl rfl) _) hgw
          clear hset hae hq2 hyb
          go_upto_region 15 with (fail)
          generalize hw9 : World.setCell _ _ _ = w9 at hnx hBx ⊢
          have HNX := hide hnx
          have HBX := hide hBx
          clear hw9 hnx hBx c1 f1 lg z1 lb1 ey
          go_wp2_with fail
          go_roundw
          case rel => exact ⟨j + 1, by go_num, by omega, HNX, HBX⟩
          case measure => simp [intOf]; omega
        case neg =>
          have hjl1 : ¬ (j : Int) < (ws.length : Int) := by omega
          have HRn : Hid (RowC wr gi (rngC l.ws.length (inC D (k + 1)))) := by
            have h1 := HR.out
            rw [rngC_congr (g := inC D (k + 1)) (fun b _ => by
              show inC D k b + occT ws j b = _
              rw [inC_step hkl b, HWS.out, show j = ws.length by omega])] at h1
            exact h1
          clear hjl HR
          go_wp2_with fail
          clear z1 lb1
          go_loopw [11, 12, 13, 14, 15, 16, 17] (fun i _ _ _ _ _ _ wr => ∃ q : Nat, i = .int .i64 q ∧ q ≤ k ∧ Hid (RowC wr gi (rngC l.ws.length (inC D (k + 1)))) ∧ Hid (Below W4.heap.size W4 wr)) (fun i _ _ _ _ _ _ _ => k - (intOf i).toNat)
          case atStart => exact ⟨0, rfl, Nat.zero_le _, HRn, HW⟩
          case round =>
            clear HRn HW
            obtain ⟨q, rfl, hq, HRn, HW⟩ := hrel
            by_cases hqk : q < k
            case neg =>
              have hqk1 : ¬ (q : Int) < (k : Int) := by omega
              clear hqk
              go_wp2_with fail
              go_roundw
              case rel => exact ⟨k + 1, by go_num, by omega, HRn, HW⟩
              case measure => simp [intOf]; omega
            case pos =>
            have hqk1 : (q : Int) < (k : Int) := by omega
            have iq0 : (0 : Int) ≤ (q : Int) := by omega
            have iqD : (q : Int) < (D.length : Int) := by omega
            obtain ⟨b3, o3, dk, Ak, qk, Ax, qx, HDK, hA3, hb3, hq3, HKF, _, k0, _⟩ := HV4.out.at hkl
            obtain ⟨b4, o4, dq, Aq, qq, Ay, qy, HDQ, hA4, hb4, hq4, HQF, _, k1, _⟩ := HV4.out.at (show q < D.length by omega)
            injection hA3 with hA3
            injection hA3 with p1 p2
            subst p1 p2
            injection hA4 with hA4
            injection hA4 with p1 p2
            subst p1 p2
            have hfk := HDV.out k hkl
            have hfq := HDV.out q (by omega)
            have hlk := (HDS.out k hkl).2
            have hlq := (HDS.out q (by omega)).2
            have htg := HAP.out k q hkl (by omega) (by omega)
            rw [HDK.out] at hfk hlk htg
            rw [HDQ.out] at hfq hlq htg
            rw [← imp_tg] at htg
            have he1 : l.m.errF [dk.f, dq.f] = 0 := errF_all OK.out.m fun g hg => by
              simp only [List.mem_cons, List.not_mem_nil, or_false] at hg
              rcases hg with rfl | rfl
              · exact hfk
              · exact hfq
            have he2 : l.m.errF [dq.f, dk.f] = 0 := errF_all OK.out.m fun g hg => by
              simp only [List.mem_cons, List.not_mem_nil, or_false] at hg
              rcases hg with rfl | rfl
              · exact hfq
              · exact hfk
            have hlk2 : dk.f.length ≤ maxLen := by unfold maxLen; omega
            have hlq2 : dq.f.length ≤ maxLen := by unfold maxLen; omega
            have h1 : ∀ W, Below W4.heap.size W4 W → Calls Try.prog 15 #[.agg #[.slice A0 l.m.opts.length q0, .slice A1 l.m.rules.length q1], .slice Ak dk.f.length qk, .slice Aq dq.f.length qq] W (MeeN (impL l.m dk.f dq.f).head? (impL l.m dk.f dq.f).isEmpty W) := fun W hW => Implies_n l.m dk.f dq.f _ _ _ _ W HS.out.m hlk2 hlq2 (H.out.up (Below.to HB4.out hW (Nat.le_refl _))).m (HKF.out.up hW) (HQF.out.up hW) he1 hN
            have h2 : ∀ W, Below W4.heap.size W4 W → Calls Try.prog 15 #[.agg #[.slice A0 l.m.opts.length q0, .slice A1 l.m.rules.length q1], .slice Aq dq.f.length qq, .slice Ak dk.f.length qk] W (MeeN (impL l.m dq.f dk.f).head? (impL l.m dq.f dk.f).isEmpty W) := fun W hW => Implies_n l.m dq.f dk.f _ _ _ _ W HS.out.m hlq2 hlk2 (H.out.up (Below.to HB4.out hW (Nat.le_refl _))).m (HQF.out.up hW) (HKF.out.up hW) he2 hN
            obtain ⟨y1, hy1⟩ : ∃ z, (impL l.m dk.f dq.f).isEmpty = z := ⟨_, rfl⟩
            obtain ⟨y2, hy2⟩ : ∃ z, (impL l.m dq.f dk.f).isEmpty = z := ⟨_, rfl⟩
            rw [hy1] at h1
            rw [hy2] at h2
            rw [hy1, hy2] at htg
            have HI1 := hide h1
            have HI2 := hide h2
            have HLr := hide (HL4.out.to HW.out)
            have c0 := cellOf HLr.out 0; have c1 := cellOf HLr.out 1; have c2 := cellOf HLr.out 2; have c3 := cellOf HLr.out 3; have c4 := cellOf HLr.out 4; have c5 := cellOf HLr.out 5
            have hlb := box_lt HLr.out
            have g0 := (HW.out.cell (p := ⟨b1, o1 + k * 2, none⟩) hb1).trans k0
            have g1 := (HW.out.cell (p := ⟨b1, o1 + q * 2, none⟩) hb1).trans k1
            have lb1 : b1 < wr.heap.size := Nat.lt_of_lt_of_le hb1 HW.out.size
            clear h1 h2 hy1 hy2 he1 he2 hlk2 hlq2 hlk hlq hfk hfq hq3 hq4
            go_upto_region 23 with (fail)
            refine wp_region_held_drew (S := (fun w' => Below wr.heap.size wr w')) (by kernel_rfl) ?_ (fun hHeld => ?_)
            · try dsimp only
              exact (by repeat (first | exact Below.refl _ _ | assumption | refine Below.drew ?_ | refine Below.drewN ?_ _ | refine Below.allocT ?_ (Nat.le_refl _) _ | refine Below.setCell ?_ (by simp <;> omega) _ | refine Below.to ?_ (by assumption) (Nat.le_refl _)))
            refine zT 0 rfl ?_
            try simp only [zX]
            refine zT 1 rfl ?_
            try simp only [zX]
            refine zT 2 rfl ?_
            try simp only [zX]
            refine zT 3 rfl ?_
            try simp only [zX]
            refine zT 4 rfl ?_
            try simp only [zX]
            refine zT 5 rfl ?_
            try simp only [zX]
            refine zT 6 rfl ?_
            try simp only [zX]
            refine zT 7 rfl ?_
            try simp only [zX]
            refine zT 8 rfl ?_
            try simp only [zX]
            refine zT 9 rfl ?_
            try simp only [zX]
            refine zT 10 rfl ?_
            try simp only [zX]
            refine zT 11 rfl ?_
            try simp only [zX]
            refine wpAnyH_ready (rs := [12]) (by kernel_rfl) (by simp) ?_
            refine AllReadyH.cons rfl (fun K hK => ?_) AllReadyH.nil
            go_simp
            ((go_at_call 15; refine (HI1.out _ (Below.to HW.out (by repeat (first | exact Below.refl _ _ | assumption | refine Below.drew ?_ | refine Below.drewN ?_ _ | refine Below.allocT ?_ (Nat.le_refl _) _ | refine Below.setCell ?_ (by simp <;> omega) _ | refine Below.to ?_ (by assumption) (Nat.le_refl _))) (Nat.le_refl _))).mono ?_; rintro e w6 ⟨v6, rfl, _, hB6⟩))
            (try dsimp only)
            refine hK.out _ _ ?_ (fun hNext => ?_)
            · try dsimp only
              exact (by repeat (first | exact Below.refl _ _ | assumption | refine Below.drew ?_ | refine Below.drewN ?_ _ | refine Below.allocT ?_ (Nat.le_refl _) _ | refine Below.setCell ?_ (by simp <;> omega) _ | refine Below.to ?_ (by assumption) (Nat.le_refl _)))
            clear hK K hHeld
            have hHeld := hNext
            clear hNext
            (try dsimp only at hHeld)
            try simp only [zX]
            refine zT 13 rfl ?_
            try simp only [zX]
            refine zT 14 rfl ?_
            try simp only [zX]
            refine zT 15 rfl ?_
            try simp only [zX]
            refine zT 16 rfl ?_
            try simp only [zX]
            refine zT 17 rfl ?_
            try simp only [zX]
            refine zT 18 rfl ?_
            try simp only [zX]
            refine zT 19 rfl ?_
            try simp only [zX]
            refine wpAnyH_done (by kernel_rfl) ?_ _
            have HR6 := hide (HRn.out.to hHeld)
            have HW6 := hide (Below.to HW.out hHeld (Nat.le_refl _))
            have HL6 := hide (HLr.out.to hHeld)
            clear hHeld c0 c1 c2 c3 c4 c5 hlb g0 g1 lb1
            have c0 := cellOf HL6.out 0; have c1 := cellOf HL6.out 1; have c2 := cellOf HL6.out 2; have c3 := cellOf HL6.out 3; have c4 := cellOf HL6.out 4; have c5 := cellOf HL6.out 5
            have hlb := box_lt HL6.out
            have g0 := (HW6.out.cell (p := ⟨b1, o1 + k * 2, none⟩) hb1).trans k0
            have g1 := (HW6.out.cell (p := ⟨b1, o1 + q * 2, none⟩) hb1).trans k1
            have lb1 : b1 < w6.heap.size := Nat.lt_of_lt_of_le hb1 HW6.out.size
            go_upto_region 24 with (fail)
            refine wp_region_held_drew (S := (fun w' => Below w6.heap.size w6 w')) (by kernel_rfl) ?_ (fun hHeld => ?_)
            · try dsimp only
              exact (by repeat (first | exact Below.refl _ _ | assumption | refine Below.drew ?_ | refine Below.drewN ?_ _ | refine Below.allocT ?_ (Nat.le_refl _) _ | refine Below.setCell ?_ (by simp <;> omega) _ | refine Below.to ?_ (by assumption) (Nat.le_refl _)))
            refine zT 0 rfl ?_
            try simp only [zX]
            refine zT 1 rfl ?_
            try simp only [zX]
            refine zT 2 rfl ?_
            try simp only [zX]
            refine zT 3 rfl ?_
            try simp only [zX]
            refine zT 4 rfl ?_
            try simp only [zX]
            refine zT 5 rfl ?_
            try simp only [zX]
            refine zT 6 rfl ?_
            try simp only [zX]
            refine zT 7 rfl ?_
            try simp only [zX]
            refine zT 8 rfl ?_
            try simp only [zX]
            refine zT 9 rfl ?_
            try simp only [zX]
            refine zT 10 rfl ?_
            try simp only [zX]
            refine zT 11 rfl ?_
            try simp only [zX]
            refine wpAnyH_ready (rs := [12]) (by kernel_rfl) (by simp) ?_
            refine AllReadyH.cons rfl (fun K hK => ?_) AllReadyH.nil
            go_simp
            ((go_at_call 15; refine (HI2.out _ (Below.to HW6.out (by repeat (first | exact Below.refl _ _ | assumption | refine Below.drew ?_ | refine Below.drewN ?_ _ | refine Below.allocT ?_ (Nat.le_refl _) _ | refine Below.setCell ?_ (by simp <;> omega) _ | refine Below.to ?_ (by assumption) (Nat.le_refl _))) (Nat.le_refl _))).mono ?_; rintro e w7 ⟨v7, rfl, _, hB7⟩))
            (try dsimp only)
            refine hK.out _ _ ?_ (fun hNext => ?_)
            · try dsimp only
              exact (by repeat (first | exact Below.refl _ _ | assumption | refine Below.drew ?_ | refine Below.drewN ?_ _ | refine Below.allocT ?_ (Nat.le_refl _) _ | refine Below.setCell ?_ (by simp <;> omega) _ | refine Below.to ?_ (by assumption) (Nat.le_refl _)))
            clear hK K hHeld
            have hHeld := hNext
            clear hNext
            (try dsimp only at hHeld)
            try simp only [zX]
            refine zT 13 rfl ?_
            try simp only [zX]
            refine zT 14 rfl ?_
            try simp only [zX]
            refine zT 15 rfl ?_
            try simp only [zX]
            refine zT 16 rfl ?_
            try simp only [zX]
            refine zT 17 rfl ?_
            try simp only [zX]
            refine zT 18 rfl ?_
            try simp only [zX]
            refine zT 19 rfl ?_
            try simp only [zX]
            refine wpAnyH_done (by kernel_rfl) ?_ _
            have HR7 := hide (HR6.out.to hHeld)
            have HW7 := hide (Below.to HW6.out hHeld (Nat.le_refl _))
            clear hHeld c0 c1 c2 c3 c4 c5 hlb g0 g1 lb1
            cases y1 with
            | true =>
              have hy2 : y2 = false := by simpa using htg
              subst hy2
              clear htg
              go_wp2_with fail
              go_roundw
              case rel => exact ⟨q + 1, by go_num, by omega, HR7, HW7⟩
              case measure => simp [intOf]; omega
            | false =>
              clear htg
              go_wp2_with fail
              go_roundw
              case rel => exact ⟨q + 1, by go_num, by omega, HR7, HW7⟩
              case measure => simp [intOf]; omega
    case neg =>
      have hkl1 : ¬ (k : Int) < (D.length : Int) := by omega
      have HRn : Hid (RowC wr gi (rngC l.ws.length (inC D D.length))) := by have h1 := HR.out; rw [show k = D.length by omega] at h1; exact h1
      clear hkl HR
      go_wp2_with fail
      go_loopw [18, 19, 20] (fun i _ _ wr => ∃ b : Nat, i = .int .i64 b ∧ b ≤ l.ws.length ∧ Hid (RowC wr gi (rngC l.ws.length (inC D D.length))) ∧ Hid (Below W4.heap.size W4 wr)) (fun i _ _ _ => l.ws.length - (intOf i).toNat)
      case atStart => exact ⟨0, rfl, Nat.zero_le _, HRn, HW⟩
      case round =>
        clear HRn HW
        obtain ⟨b, rfl, hb, HRn, HW⟩ := hrel
        have HBr := hide (Below.to HB4.out HW.out (Nat.le_refl _))
        by_cases hbl : b < l.ws.length
        case neg =>
          have hbl1 : ¬ (b : Int) < (l.ws.length : Int) := by omega
          clear hbl
          go_wp2_with (go_at_call 7; refine (works_build _).mono ?_; rintro e w9 ⟨rfl, hB9⟩)
          go_ret
          exact ⟨rfl, Below.to HBr.out hB9 (Nat.le_refl _)⟩
        case pos =>
        have hbl1 : (b : Int) < (l.ws.length : Int) := by omega
        have ib0 : (0 : Int) ≤ (b : Int) := by omega
        have inn : (l.ws.length : Int) ≤ (l.ws.length : Int) := Int.le_refl _
        obtain ⟨bw, ow, x, Af, qf, HX, hA5, hbw, hq5, HXF, _, _, _, _, _, _, e6⟩ := H.out.wi hbl
        subst hA5
        have g6 := (HBr.out.cell (p := ⟨bw, ow + b * 7 + 6, none⟩) hbw).trans e6
        have lbw : bw < wr.heap.size := Nat.lt_of_lt_of_le hbw HBr.out.size
        have iq5 : (l.ws.length : Int) ≤ (q5 : Int) := by omega
        have hfx : fmW l b = x.form := by unfold fmW; rw [HX.out]
        have hxv := (LoOk.wi OK.out hbl).2
        rw [HX.out] at hxv
        have hxl := (HS.out.wn (l.ws.getD b Wi.o) (getD_mem7 hbl)).2
        rw [HX.out] at hxl
        have hef : l.m.errF [x.form] = 0 := errF_all OK.out.m fun g hg => by rw [List.mem_singleton] at hg; rw [hg]; exact hxv
        obtain ⟨cn, hcn⟩ : ∃ z, cntE l.m x.form = z := ⟨_, rfl⟩
        have hcs := (cnt_some hef).1
        rw [hcn] at hcs
        have hct : ∀ W, Below w.heap.size w W → Calls Try.prog 16 #[.agg #[.slice A0 l.m.opts.length q0, .slice A1 l.m.rules.length q1], .slice Af x.form.length qf] W fun e w' => e = .returned (.tuple #[.int .i64 (cn : Nat), .int .i64 0]) ∧ Below W.heap.size W w' := fun W hW => by
          have h1 := Count_any l.m x.form _ _ (.slice Af x.form.length qf) W HS.out.m hxl (H.out.up hW).m (HXF.out.up hW) (fun _ => hN)
          rw [hef, hcn] at h1
          exact h1
        have HCT := hide hct
        have hiw := HIN.out b hbl
        rw [hfx] at hiw
        have HLr := hide (HL4.out.to HW.out)
        have c0 := cellOf HLr.out 0; have c1 := cellOf HLr.out 1; have c2 := cellOf HLr.out 2; have c3 := cellOf HLr.out 3; have c4 := cellOf HLr.out 4; have c5 := cellOf HLr.out 5
        have hlb := box_lt HLr.out
        clear e6 hq5 hxv hxl hef hct hfx hcn
        go_upto_region 30 with (fail)
        refine wp_region_held_drew (S := (fun w' => Below wr.heap.size wr w')) (by kernel_rfl) ?_ (fun hHeld => ?_)
        · try dsimp only
          exact (by repeat (first | exact Below.refl _ _ | assumption | refine Below.drew ?_ | refine Below.drewN ?_ _ | refine Below.allocT ?_ (Nat.le_refl _) _ | refine Below.setCell ?_ (by simp <;> omega) _ | refine Below.to ?_ (by assumption) (Nat.le_refl _)))
        refine zT 0 rfl ?_
        try simp only [zX]
        refine zT 1 rfl ?_
        try simp only [zX]
        refine zT 2 rfl ?_
        try simp only [zX]
        refine zT 3 rfl ?_
        try simp only [zX]
        refine zT 4 rfl ?_
        try simp only [zX]
        refine zT 5 rfl ?_
        try simp only [zX]
        refine zT 6 rfl ?_
        try simp only [zX]
        refine zT 7 rfl ?_
        try simp only [zX]
        refine wpAnyH_ready (rs := [8]) (by kernel_rfl) (by simp) ?_
        refine AllReadyH.cons rfl (fun K hK => ?_) AllReadyH.nil
        go_simp
        ((go_at_call 16; refine (HCT.out _ (Below.to HBr.out (by repeat (first | exact Below.refl _ _ | assumption | refine Below.drew ?_ | refine Below.drewN ?_ _ | refine Below.allocT ?_ (Nat.le_refl _) _ | refine Below.setCell ?_ (by simp <;> omega) _ | refine Below.to ?_ (by assumption) (Nat.le_refl _))) (Nat.le_refl _))).mono ?_; rintro e w6 ⟨rfl, hB6⟩))
        (try dsimp only)
        refine hK.out _ _ ?_ (fun hNext => ?_)
        · try dsimp only
          exact (by repeat (first | exact Below.refl _ _ | assumption | refine Below.drew ?_ | refine Below.drewN ?_ _ | refine Below.allocT ?_ (Nat.le_refl _) _ | refine Below.setCell ?_ (by simp <;> omega) _ | refine Below.to ?_ (by assumption) (Nat.le_refl _)))
        clear hK K hHeld
        have hHeld := hNext
        clear hNext
        (try dsimp only at hHeld)
        try simp only [zX]
        refine zT 9 rfl ?_
        try simp only [zX]
        refine zT 10 rfl ?_
        try simp only [zX]
        refine zT 11 rfl ?_
        try simp only [zX]
        refine zT 12 rfl ?_
        try simp only [zX]
        refine zT 13 rfl ?_
        try simp only [zX]
        refine wpAnyH_done (by kernel_rfl) ?_ _
        have HR6 := hide (HRn.out.to hHeld)
        have HW6 := hide (Below.to HW.out hHeld (Nat.le_refl _))
        clear hHeld c0 c1 c2 c3 c4 c5 hlb g6 lbw
        have c1 := HR6.out.cell (k := b) (by rw [rngC_len]; exact hbl)
        rw [rngC_at hbl, hiw] at c1
        have lg : gi < w6.heap.size := box_lt HR6.out
        cases hsb : sometB l.m x.form with
        | true =>
          rw [hsb, if_pos rfl] at c1
          rw [hsb] at hcs
          have hcs2 : decide (0 < cn) = true := by have := of_decide_eq_true hcs; simp; omega
          have e1 : (((1 : Nat) : Int) == 1) = true := by decide
          have e2 : decide ((1 : Int) < ((1 : Nat) : Int)) = false := by decide
          clear hsb hiw
          go_wp2_with fail
          go_roundw
          case rel => exact ⟨b + 1, by go_num, by omega, HR6, HW6⟩
          case measure => simp [intOf]; omega
        | false =>
          rw [hsb, if_neg (by simp)] at c1
          rw [hsb] at hcs
          have hcs2 : decide (0 < cn) = false := by have := of_decide_eq_false hcs; simp; omega
          have e1 : (((0 : Nat) : Int) == 1) = false := by decide
          have e2 : decide ((1 : Int) < ((0 : Nat) : Int)) = false := by decide
          clear hsb hiw
          go_wp2_with fail
          go_roundw
          case rel => exact ⟨b + 1, by go_num, by omega, HR6, HW6⟩
          case measure => simp [intOf]; omega
end Go.Proofs.Ytehadoecnmfeoaa
/- The laws' looms, opened: no condition. -/
namespace Go.Proofs.Ytehadoecnmfeoaa
open Go.Joins Go.ChangeShapes Go.WideShapes Go.ChangeAt Go.RowKit Go.Deep
set_option maxRecDepth 100000
set_option linter.unusedVariables false
set_option linter.unusedSimpArgs false
section
variable {H : Type} {enc : TypeId × Value → H} {W : World} {base b0 : Nat} {r : Reach} {spare : Nat → Bool} {held : Bool} {v : Value} {d : DataW H} {p : List MemPlace}
theorem open_lo (hv : Value.okWide Try.prog W r b0 41 v) (h : DataW.Trod enc Try.prog W base spare held 41 v d p) :
    ∃ (A0 A1 A2 A3 A4 A5 : Option Addr) (q0 q1 q2 q3 q4 q5 : Nat), ∃ l : Lo, v = .agg #[.slice A0 l.m.opts.length q0, .slice A1 l.m.rules.length q1, .slice A2 l.ss.length q2, .slice A3 l.us.length q3, .slice A4 l.ps.length q4, .slice A5 l.ws.length q5] ∧ LoA W W.heap.size A0 A1 A2 A3 A4 A5 q0 q1 q2 q3 q4 q5 l ∧ SizedL l := by
  obtain ⟨ov, rv, sv, uv, pv, wv, l, rfl, hl, hs, _⟩ := open_loom hv h
  obtain ⟨A0, A1, A2, A3, A4, A5, q0, q1, q2, q3, q4, q5, rfl, rfl, rfl, rfl, rfl, rfl, hla⟩ := hl.form
  exact ⟨A0, A1, A2, A3, A4, A5, q0, q1, q2, q3, q4, q5, l, rfl, hla, hs⟩
end
end Go.Proofs.Ytehadoecnmfeoaa

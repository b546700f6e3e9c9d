/- Group U of this claim's texts: walks and plain laws. -/
import Derived.Test.YtohofcmikfkilaaRows
import Derived.Test.YtohofcmikfkilaaTCF
import Derived.Test.YtohofcmikfkilaaTCG
import Derived.Test.YtohofcmikfkilaaTCH
import Derived.Test.YtohofcmikfkilaaTCJ
import Derived.Test.YtohofcmikfkilaaTCR
import Derived.Test.YtohofcmikfkilaaTCT
import Derived.Test.YtohofcmikfkilaaTCS
import Derived.Deep.RegionHeld3
import Derived.Deep.DrawnRows
/- The variants of Cover, what is missing, and Fixed fit together: walk where the model is valid. -/
namespace Go.Proofs.Ytohofcmikfkilaa
open Go.Joins Go.ChangeShapes Go.WideShapes Go.ChangeAt Go.RowKit Go.Deep
set_option linter.unusedVariables false
set_option linter.unusedSimpArgs false
theorem misL_len {m : Mo} (hN : m.err = 0 → m.opts.length ≤ 12) : (misL m).length ≤ 576 := by
  unfold misL
  split
  · rename_i h
    exact Nat.le_trans (List.length_filter_le _ _) (pairs_len (hN h))
  · simp
set_option maxRecDepth 100000 in
set_option maxHeartbeats 8000000 in
theorem optionsCovers_ok (m : Mo) (ov rv : Value) (w : World) (hs : SizedM m) (h : MoAt w w.heap.size ov rv m) (hlg : largeB m = false) (he : m.err = 0) :
    Calls Try.prog 17 #[.agg #[ov, rv]] w fun e w' => e = .returned (.bool true) ∧ Below w.heap.size w w' := by
  obtain ⟨A, cap, hov⟩ := Sl.form h.o
  obtain ⟨Ar, capr, hrv⟩ := h.r.form
  have H := hide h
  have HS := hide hs
  have HLG := hide hlg
  subst hov hrv
  have hN : m.err = 0 → m.opts.length ≤ 12 := fun he => by have := (large_small hlg he).1; omega
  have hf2 := misL_len hN
  have hf3 := cov_len hN
  have hcm := fun y hy => cov_in (m := m) y hy
  obtain ⟨ml, hml⟩ : ∃ x, misL m = x := ⟨_, rfl⟩
  obtain ⟨cl, hcl⟩ : ∃ x, covL m = x := ⟨_, rfl⟩
  rw [hml] at hf2
  rw [hcl] at hf3 hcm
  have HN := hide hN
  have HF2 := hide hf2
  have HF3 := hide hf3
  have HCM := hide hcm
  have hN12 := hN he
  have hcv : ∀ x ∈ pairsL m.opts.length, cl.any (hasX x) = !lackB m x := fun x hx => by rw [← hcl]; exact cov_has he (List.mem_append_right _ hx)
  have hfx := fun o (hne : allM m ≠ []) (ho : o < m.opts.length) => covers_fix (o := o) he hne ho
  rw [hcl] at hfx
  have hfc := fix_cases he
  rw [hcl] at hfc
  have hfl : fixE m = 0 → fixL m = (List.range m.opts.length).map (fixAt m) := fun h0 => by unfold fixL; rw [if_pos h0]
  have HFL := hide hfl
  have HMP : Hid (ml = (pairsL m.opts.length).filter (lackB m)) := by rw [← hml]; exact mis_ok he
  have HML := hide (And.intro hml he)
  have HCL := hide (And.intro hcl he)
  have HE := hide he
  have HN2 := hide hN12
  have HFX := hide hfx
  have HFC := hide hfc
  have HCV : Hid (∀ {a b : List Lk} (x : Lk), pairsL m.opts.length = a ++ x :: b → cl.any (hasX x) = !lackB m x) := fun x hx => hcv x (by rw [hx]; simp)
  clear h hs hlg hN hf2 hf3 hml hcl he hcv hfx hfc hcm hfl
  go_enter Try.func17, Try.ntmps17
  go_upto_region 1 with (fail)
  generalize hw0 : World.alloc _ _ = w0
  obtain ⟨hb0, hB0, hs0⟩ := alloc1 hw0
  clear hw0
  have HX0 := hide hb0
  have HB0 := hide hB0
  have c0 := cellOf hb0 0
  have c1 := cellOf hb0 1
  clear hb0 hB0 hs0
  go_upto_region 3 with (go_at_call 19; refine (Large_any m _ _ _ (H.out.up HB0.out)).mono ?_; rw [HLG.out]; rintro e w1 ⟨rfl, hB1⟩; have HB1 : Hid (Below w.heap.size w w1) := Below.to HB0.out hB1 (Nat.le_refl _); have HX1 := hide (box_to HX0.out hB1); (try clear c0 c1); have c0 := cellOf HX1.out 0; have c1 := cellOf HX1.out 1; clear hB1)
  go_upto_region 4 with (go_at_call 55; refine (Cover_any m _ _ _ HS.out (H.out.up HB1.out) HN.out).mono ?_; unfold ListP; rw [HCL.out.1, HCL.out.2]; rintro e w2 ⟨v2, rfl, ⟨rvs, ⟨Ac, bc, offc, capc, rfl, hncc, hAc, hcc⟩, hrc⟩, hB2⟩; have HB2 : Hid (Below w.heap.size w w2) := Below.to HB1.out hB2 (Nat.le_refl _); have HX2 := hide (box_to HX1.out hB2); (try clear c0 c1); have c0 := cellOf HX2.out 0; have c1 := cellOf HX2.out 1; have HVC : Hid (Vars w2 w2.heap.size (.slice Ac cl.length capc) cl) := ⟨rvs, ⟨Ac, bc, offc, capc, rfl, hncc, hAc, hcc⟩, hrc⟩; have HAC := hide hAc; have HCC := hide hcc; have HRC := hide hrc; clear hB2 hncc hAc hcc hrc)
  go_upto_region 5 with (go_at_call 51; refine (Missing_any m _ _ _ HS.out (H.out.up HB2.out) HN.out).mono ?_; unfold MisP; rw [HML.out.1, HML.out.2]; rintro e w3 ⟨v3, rfl, hm3, hB3⟩; have HB3 : Hid (Below w.heap.size w w3) := Below.to HB2.out hB3 (Nat.le_refl _); have HX3 := hide (box_to HX2.out hB3); (try clear c0 c1); have c0 := cellOf HX3.out 0; have c1 := cellOf HX3.out 1; obtain ⟨Am, capm, hAm⟩ := Sl.form hm3; subst hAm; have HM3 := hide hm3; have HB23 : Hid (Below w2.heap.size w2 w3) := hB3; clear hB3 hm3)
  go_upto_region 8 with (fail)
  go_loopw [7] (fun i wr => ∃ k : Nat, k ≤ cl.length ∧ i = .int .i64 k ∧ Hid (Below w3.heap.size w3 wr)) (fun i _ => cl.length - (intOf i).toNat)
  case atStart => exact ⟨0, Nat.zero_le _, rfl, Below.refl _ _⟩
  case round =>
    obtain ⟨k, hk, rfl, hB⟩ := hrel
    have hk6 : k ≤ 600 := by have := HF3.out; omega
    have HBr : Hid (Below w.heap.size w wr) := Below.to HB3.out hB.out (Nat.le_refl _)
    have HXr := hide (box_to HX3.out hB.out)
    have HB2r : Hid (Below w2.heap.size w2 wr) := Below.to HB23.out hB.out (Nat.le_refl _)
    clear c0 c1
    by_cases hlt : k < cl.length
    · obtain ⟨hAcx, q1, Ax, capx, q2, q3⟩ := vars_get HAC.out HCC.out HRC.out hlt
      subst hAcx
      obtain ⟨y, hy⟩ : ∃ x, cl.getD k [] = x := ⟨_, rfl⟩
      have hym := HCM.out y (by rw [← hy]; exact getD_mem hlt)
      rw [hy] at q2 q3
      have hyl := allM_len hym
      have hyr : allF (vf y) m.rules = true := by unfold allM at hym; exact (List.mem_filter.1 hym).2
      obtain ⟨b1, b2, b3⟩ := bui_yes1 HE.out hyl hyr
      have HBU := hide (And.intro b1 (And.intro b2 b3))
      have c0 := cellOf HXr.out 0
      have c1 := cellOf HXr.out 1
      have hbxr : w.heap.size < wr.heap.size := box_lt HXr.out
      have hbcr : bc < wr.heap.size := Nat.lt_of_lt_of_le q1 HB2r.out.size
      have e0 : wr.cell? ⟨bc, offc + k, none⟩ = some (.slice Ax y.length capx) := (HB2r.out.cell (p := ⟨bc, offc + k, none⟩) q1).trans q2
      have HYr : Hid (Bols wr wr.heap.size (.slice Ax y.length capx) y) := Sl.more (Sl.below q3 HB2r.out) HB2r.out.size
      have gi0 : (k : Int) < (cl.length : Int) := by omega
      have gi1 : (0 : Int) ≤ (k : Int) := by omega
      clear q1 q2 q3 hy hym hyl hyr b1 b2 b3
      go_upto_region 10 with (fail)
      refine wp_region_held_drew (S := (fun w' => Below wr.heap.size wr w')) (by kernel_rfl) ?_ (fun hHeld => ?_)
      · try dsimp only
        exact (by repeat (first | exact Below.refl _ _ | assumption | refine Below.drew ?_ | refine Below.drewN ?_ _ | refine Below.allocT ?_ (Nat.le_refl _) _ | refine Below.setCell ?_ (by simp <;> omega) _ | refine Below.to ?_ (by assumption) (Nat.le_refl _)))
      refine wpAnyH_take (i := 0) (v := ?v1_0) rfl (by kernel_rfl) (by kernel_rfl) (by kernel_rfl) (fun _ _ _ h => h) (Or.inl ⟨by rfl, ?y1_0⟩) (by assumption) ?r1_0
      case' y1_0 => (intro w hSw; (try dsimp only at hSw); (try have hlS := HLK.out _ hSw); obtain ⟨hcS, hfS⟩ := bcell hSw; clear hSw; go_simp; try with_reducible rfl)
      try simp only [Act.put, List.getElem_toArray, List.getElem_cons_succ, List.getElem_cons_zero, List.setIfInBounds_toArray, List.set_cons_zero, List.set_cons_succ]
      refine wpAnyH_take (i := 1) (v := ?v1_1) rfl (by kernel_rfl) (by kernel_rfl) (by kernel_rfl) (fun _ _ _ h => h) (Or.inl ⟨by rfl, ?y1_1⟩) (by assumption) ?r1_1
      case' y1_1 => (intro w hSw; (try dsimp only at hSw); (try have hlS := HLK.out _ hSw); obtain ⟨hcS, hfS⟩ := bcell hSw; clear hSw; go_simp; try with_reducible rfl)
      try simp only [Act.put, List.getElem_toArray, List.getElem_cons_succ, List.getElem_cons_zero, List.setIfInBounds_toArray, List.set_cons_zero, List.set_cons_succ]
      refine wpAnyH_take (i := 2) (v := ?v1_2) rfl (by kernel_rfl) (by kernel_rfl) (by kernel_rfl) (fun _ _ _ h => h) (Or.inl ⟨by rfl, ?y1_2⟩) (by assumption) ?r1_2
      case' y1_2 => (intro w hSw; (try dsimp only at hSw); (try have hlS := HLK.out _ hSw); obtain ⟨hcS, hfS⟩ := bcell hSw; clear hSw; go_simp; try with_reducible rfl)
      try simp only [Act.put, List.getElem_toArray, List.getElem_cons_succ, List.getElem_cons_zero, List.setIfInBounds_toArray, List.set_cons_zero, List.set_cons_succ]
      refine wpAnyH_take (i := 3) (v := ?v1_3) rfl (by kernel_rfl) (by kernel_rfl) (by kernel_rfl) (fun _ _ _ h => h) (Or.inl ⟨by rfl, ?y1_3⟩) (by assumption) ?r1_3
      case' y1_3 => (intro w hSw; (try dsimp only at hSw); (try have hlS := HLK.out _ hSw); obtain ⟨hcS, hfS⟩ := bcell hSw; clear hSw; go_simp; try with_reducible rfl)
      try simp only [Act.put, List.getElem_toArray, List.getElem_cons_succ, List.getElem_cons_zero, List.setIfInBounds_toArray, List.set_cons_zero, List.set_cons_succ]
      refine wpAnyH_take (i := 4) (v := ?v1_4) rfl (by kernel_rfl) (by kernel_rfl) (by kernel_rfl) (fun _ _ _ h => h) (Or.inl ⟨by rfl, ?y1_4⟩) (by assumption) ?r1_4
      case' y1_4 => (intro w hSw; (try dsimp only at hSw); (try have hlS := HLK.out _ hSw); obtain ⟨hcS, hfS⟩ := bcell hSw; clear hSw; go_simp; try with_reducible rfl)
      try simp only [Act.put, List.getElem_toArray, List.getElem_cons_succ, List.getElem_cons_zero, List.setIfInBounds_toArray, List.set_cons_zero, List.set_cons_succ]
      refine wpAnyH_ready (rs := [5]) (by kernel_rfl) (by simp) ?_
      refine AllReadyH.cons rfl (fun K hK => ?_) AllReadyH.nil
      go_simp
      ((go_at_call 47; refine (Buildable_any m y _ _ _ _ HS.out (H.out.up (Below.to HBr.out (by repeat (first | exact Below.refl _ _ | assumption | refine Below.drew ?_ | refine Below.drewN ?_ _ | refine Below.allocT ?_ (Nat.le_refl _) _ | refine Below.setCell ?_ (by simp <;> omega) _ | refine Below.to ?_ (by assumption) (Nat.le_refl _))) (Nat.le_refl _))) (Sl.up HYr.out (by repeat (first | exact Below.refl _ _ | assumption | refine Below.drew ?_ | refine Below.drewN ?_ _ | refine Below.allocT ?_ (Nat.le_refl _) _ | refine Below.setCell ?_ (by simp <;> omega) _ | refine Below.to ?_ (by assumption) (Nat.le_refl _))))).mono ?_; rw [HBU.out.1, HBU.out.2.1, HBU.out.2.2]; rintro e ws ⟨rfl, hBs⟩))
      (try dsimp only)
      refine hK.out _ _ ?_ (fun hNext => ?_)
      · try dsimp only
        exact (by repeat (first | exact Below.refl _ _ | assumption | refine Below.drew ?_ | refine Below.drewN ?_ _ | refine Below.allocT ?_ (Nat.le_refl _) _ | refine Below.setCell ?_ (by simp <;> omega) _ | refine Below.to ?_ (by assumption) (Nat.le_refl _)))
      clear hK K hHeld
      have hHeld := hNext
      clear hNext
      (try dsimp only at hHeld)
      try simp only [Act.put, List.getElem_toArray, List.getElem_cons_succ, List.getElem_cons_zero, List.setIfInBounds_toArray, List.set_cons_zero, List.set_cons_succ]
      refine wpAnyH_take (i := 6) (v := ?v1_6) rfl (by kernel_rfl) (by kernel_rfl) (by kernel_rfl) (fun _ _ _ h => h) (Or.inl ⟨by rfl, ?y1_6⟩) (by assumption) ?r1_6
      case' y1_6 => (intro w hSw; (try dsimp only at hSw); (try have hlS := HLK.out _ hSw); obtain ⟨hcS, hfS⟩ := bcell hSw; clear hSw; go_simp; try with_reducible rfl)
      try simp only [Act.put, List.getElem_toArray, List.getElem_cons_succ, List.getElem_cons_zero, List.setIfInBounds_toArray, List.set_cons_zero, List.set_cons_succ]
      refine wpAnyH_take (i := 7) (v := ?v1_7) rfl (by kernel_rfl) (by kernel_rfl) (by kernel_rfl) (fun _ _ _ h => h) (Or.inl ⟨by rfl, ?y1_7⟩) (by assumption) ?r1_7
      case' y1_7 => (intro w hSw; (try dsimp only at hSw); (try have hlS := HLK.out _ hSw); obtain ⟨hcS, hfS⟩ := bcell hSw; clear hSw; go_simp; try with_reducible rfl)
      try simp only [Act.put, List.getElem_toArray, List.getElem_cons_succ, List.getElem_cons_zero, List.setIfInBounds_toArray, List.set_cons_zero, List.set_cons_succ]
      refine wpAnyH_take (i := 8) (v := ?v1_8) rfl (by kernel_rfl) (by kernel_rfl) (by kernel_rfl) (fun _ _ _ h => h) (Or.inl ⟨by rfl, ?y1_8⟩) (by assumption) ?r1_8
      case' y1_8 => (intro w hSw; (try dsimp only at hSw); (try have hlS := HLK.out _ hSw); obtain ⟨hcS, hfS⟩ := bcell hSw; clear hSw; go_simp; try with_reducible rfl)
      try simp only [Act.put, List.getElem_toArray, List.getElem_cons_succ, List.getElem_cons_zero, List.setIfInBounds_toArray, List.set_cons_zero, List.set_cons_succ]
      refine wpAnyH_take (i := 9) (v := ?v1_9) rfl (by kernel_rfl) (by kernel_rfl) (by kernel_rfl) (fun _ _ _ h => h) (Or.inl ⟨by rfl, ?y1_9⟩) (by assumption) ?r1_9
      case' y1_9 => (intro w hSw; (try dsimp only at hSw); (try have hlS := HLK.out _ hSw); obtain ⟨hcS, hfS⟩ := bcell hSw; clear hSw; go_simp; try with_reducible rfl)
      try simp only [Act.put, List.getElem_toArray, List.getElem_cons_succ, List.getElem_cons_zero, List.setIfInBounds_toArray, List.set_cons_zero, List.set_cons_succ]
      refine wpAnyH_take (i := 10) (v := ?v1_10) rfl (by kernel_rfl) (by kernel_rfl) (by kernel_rfl) (fun _ _ _ h => h) (Or.inl ⟨by rfl, ?y1_10⟩) (by assumption) ?r1_10
      case' y1_10 => (intro w hSw; (try dsimp only at hSw); (try have hlS := HLK.out _ hSw); obtain ⟨hcS, hfS⟩ := bcell hSw; clear hSw; go_simp; try with_reducible rfl)
      try simp only [Act.put, List.getElem_toArray, List.getElem_cons_succ, List.getElem_cons_zero, List.setIfInBounds_toArray, List.set_cons_zero, List.set_cons_succ]
      refine wpAnyH_take (i := 11) (v := ?v1_11) rfl (by kernel_rfl) (by kernel_rfl) (by kernel_rfl) (fun _ _ _ h => h) (Or.inl ⟨by rfl, ?y1_11⟩) (by assumption) ?r1_11
      case' y1_11 => (intro w hSw; (try dsimp only at hSw); (try have hlS := HLK.out _ hSw); obtain ⟨hcS, hfS⟩ := bcell hSw; clear hSw; go_simp; try with_reducible rfl)
      try simp only [Act.put, List.getElem_toArray, List.getElem_cons_succ, List.getElem_cons_zero, List.setIfInBounds_toArray, List.set_cons_zero, List.set_cons_succ]
      refine wpAnyH_take (i := 12) (v := ?v1_12) rfl (by kernel_rfl) (by kernel_rfl) (by kernel_rfl) (fun _ _ _ h => h) (Or.inl ⟨by rfl, ?y1_12⟩) (by assumption) ?r1_12
      case' y1_12 => (intro w hSw; (try dsimp only at hSw); (try have hlS := HLK.out _ hSw); obtain ⟨hcS, hfS⟩ := bcell hSw; clear hSw; go_simp; try with_reducible rfl)
      try simp only [Act.put, List.getElem_toArray, List.getElem_cons_succ, List.getElem_cons_zero, List.setIfInBounds_toArray, List.set_cons_zero, List.set_cons_succ]
      refine wpAnyH_done (by kernel_rfl) ?_ _
      go_wp2_with fail
      go_roundw
      case rel => exact ⟨k + 1, by omega, by go_num, Below.to hB.out hHeld (Nat.le_refl _)⟩
      case measure => simp [intOf]; omega
    · obtain rfl : k = cl.length := by omega
      have gi0 : ¬ (cl.length : Int) < (cl.length : Int) := by omega
      obtain ⟨w4, hw4⟩ : ∃ x, x = wr := ⟨_, rfl⟩
      subst hw4
      have HM4 : Hid (Lks w4 w4.heap.size (.slice Am ml.length capm) ml) := HM3.out.up hB.out
      have HV4 : Hid (Vars w4 w4.heap.size (.slice Ac cl.length capc) cl) := HVC.out.up HB2r.out
      have HB4 := hide HBr.out
      have HX4 := hide HXr.out
      clear hB HBr HXr HB2r HVC HM3 HAC HCC HRC
      go_upto_region 15 with (fail)
      go_loopw [11, 12] (fun ac i wr => ∃ a at1 : Nat, a ≤ m.opts.length ∧ i = .int .i64 a ∧ ac = .int .i64 at1 ∧ Hid (at1 = ((pairsN m.opts.length a).filter (lackB m)).length) ∧ Hid (Below w4.heap.size w4 wr)) (fun _ i _ => m.opts.length - (intOf i).toNat)
      case atStart => exact ⟨0, 0, Nat.zero_le _, rfl, rfl, rfl, Below.refl _ _⟩
      case round =>
        obtain ⟨a, at1, ha, rfl, rfl, hat, hB⟩ := hrel
        have hbxr := box_to HX4.out hB.out
        have d0 := cellOf hbxr 0
        have d1 := cellOf hbxr 1
        have l0 := box_lt hbxr
        clear hbxr
        by_cases hlt : a < m.opts.length
        · have ga : (a : Int) < (m.opts.length : Int) := by omega
          have hn12 := HN2.out
          obtain ⟨wo, hwo⟩ : ∃ wo : World, wo = wr := ⟨_, rfl⟩
          subst hwo
          go_upto_region 18 with (fail)
          clear d0 d1 l0
          go_loopw [11, 13] (fun ac i wr => ∃ d b at1 : Nat, d ≤ m.opts.length - (a + 1) ∧ Hid (b = a + 1 + d) ∧ i = .int .i64 b ∧ ac = .int .i64 at1 ∧ Hid (at1 = ((pairsN m.opts.length a ++ rowN a d).filter (lackB m)).length) ∧ Hid (Below w4.heap.size w4 wr)) (fun _ i _ => m.opts.length - (intOf i).toNat)
          case atStart => exact ⟨0, a + 1, at1, Nat.zero_le _, (rfl : a + 1 = a + 1 + 0), by go_num, rfl, (by rw [show rowN a 0 = [] from rfl, List.append_nil]; exact hat.out), hB.out⟩
          case round =>
            obtain ⟨d, b, at1, hd, hb, rfl, rfl, hat, hB1⟩ := hrel
            have hbxr := box_to HX4.out hB1.out
            have d0 := cellOf hbxr 0
            have d1 := cellOf hbxr 1
            have l0 := box_lt hbxr
            clear hbxr
            by_cases hlt2 : b < m.opts.length
            · have hd2 : d < m.opts.length - (a + 1) := by have := hb.out; omega
              have gb : (b : Int) < (m.opts.length : Int) := by omega
              obtain ⟨wo1, hwo1⟩ : ∃ wo : World, wo = wr := ⟨_, rfl⟩
              subst hwo1
              go_upto_region 21 with (fail)
              clear d0 d1 l0
              go_loopw [11, 14] (fun ac i wr => ∃ k at1 : Nat, k ≤ 4 ∧ i = .int .i64 k ∧ ac = .int .i64 at1 ∧ Hid (at1 = ((pairsN m.opts.length a ++ rowN a d ++ quadN a b k).filter (lackB m)).length) ∧ Hid (Below w4.heap.size w4 wr)) (fun _ i _ => 4 - (intOf i).toNat)
              case atStart => exact ⟨0, at1, Nat.zero_le _, rfl, rfl, (by rw [show quadN a b 0 = [] from rfl, List.append_nil]; exact hat.out), hB1.out⟩
              case round =>
                obtain ⟨k, at1, hk4, rfl, rfl, hat, hB2⟩ := hrel
                by_cases hlt3 : k < 4
                · have gk : (k : Int) < 4 := by omega
                  go_upto_region 23 with (fail)
                  obtain ⟨wi, hwi⟩ : ∃ x, x = wr := ⟨_, rfl⟩
                  subst hwi
                  obtain ⟨x, hxx⟩ : ∃ x, lkAt a b k = x := ⟨_, rfl⟩
                  obtain ⟨xa, xb, xwa, xwb⟩ := x
                  have hxab : xa = a ∧ xb = b := by
                    have h1 := congrArg Lk.a hxx
                    have h2 := congrArg Lk.b hxx
                    exact ⟨h1.symm, h2.symm⟩
                  obtain ⟨hxa, hxb⟩ := hxab
                  subst hxa hxb
                  have hsp := pairs_split hlt hd2 hlt3
                  rw [← hb.out, hxx] at hsp
                  obtain ⟨rst, hsp⟩ := hsp
                  have HSP := hide hsp
                  have HXX := hide hxx
                  obtain ⟨pre, hpre⟩ : ∃ x, pairsN m.opts.length xa ++ rowN xa d ++ quadN xa xb k = x := ⟨_, rfl⟩
                  rw [hpre] at HSP hat
                  have HPRE := hide hpre
                  clear hxx hsp hpre
                  go_cut [15] from 83 to 90 (fun p wc => p = .pointer (some ⟨wi.heap.size, 0, none⟩) ∧ Hid (Below wi.heap.size wi wc) ∧ Hid (wc.heap[wi.heap.size]? = some (.cells #[.int .i64 xa, .int .i64 xb, .bool xwa, .bool xwb] 77 (0, 0))))
                  case first =>
                    match k, hlt3, HXX with
                    | 0, _, HXX =>
                      have hxx : lkAt xa xb 0 = ⟨xa, xb, false, false⟩ := rfl
                      obtain ⟨rfl, rfl⟩ : xwa = false ∧ xwb = false := by have := HXX.out; rw [hxx] at this; injection this with _ _ h1 h2; exact ⟨h1.symm, h2.symm⟩
                      go_wp2_with fail
                      go_meet
                      case rel => exact ⟨rfl, (by repeat (first | exact Below.refl _ _ | assumption | refine Below.drew ?_ | refine Below.drewN ?_ _ | refine Below.allocT ?_ (Nat.le_refl _) _ | refine Below.setCell ?_ (by simp <;> omega) _ | refine Below.to ?_ (by assumption) (Nat.le_refl _))), heap_new _ _ _ rfl⟩
                    | 1, _, HXX =>
                      have hxx : lkAt xa xb 1 = ⟨xa, xb, false, true⟩ := rfl
                      obtain ⟨rfl, rfl⟩ : xwa = false ∧ xwb = true := by have := HXX.out; rw [hxx] at this; injection this with _ _ h1 h2; exact ⟨h1.symm, h2.symm⟩
                      go_wp2_with fail
                      go_meet
                      case rel => exact ⟨rfl, (by repeat (first | exact Below.refl _ _ | assumption | refine Below.drew ?_ | refine Below.drewN ?_ _ | refine Below.allocT ?_ (Nat.le_refl _) _ | refine Below.setCell ?_ (by simp <;> omega) _ | refine Below.to ?_ (by assumption) (Nat.le_refl _))), heap_new _ _ _ rfl⟩
                    | 2, _, HXX =>
                      have hxx : lkAt xa xb 2 = ⟨xa, xb, true, false⟩ := rfl
                      obtain ⟨rfl, rfl⟩ : xwa = true ∧ xwb = false := by have := HXX.out; rw [hxx] at this; injection this with _ _ h1 h2; exact ⟨h1.symm, h2.symm⟩
                      go_wp2_with fail
                      go_meet
                      case rel => exact ⟨rfl, (by repeat (first | exact Below.refl _ _ | assumption | refine Below.drew ?_ | refine Below.drewN ?_ _ | refine Below.allocT ?_ (Nat.le_refl _) _ | refine Below.setCell ?_ (by simp <;> omega) _ | refine Below.to ?_ (by assumption) (Nat.le_refl _))), heap_new _ _ _ rfl⟩
                    | 3, _, HXX =>
                      have hxx : lkAt xa xb 3 = ⟨xa, xb, true, true⟩ := rfl
                      obtain ⟨rfl, rfl⟩ : xwa = true ∧ xwb = true := by have := HXX.out; rw [hxx] at this; injection this with _ _ h1 h2; exact ⟨h1.symm, h2.symm⟩
                      go_wp2_with fail
                      go_meet
                      case rel => exact ⟨rfl, (by repeat (first | exact Below.refl _ _ | assumption | refine Below.drew ?_ | refine Below.drewN ?_ _ | refine Below.allocT ?_ (Nat.le_refl _) _ | refine Below.setCell ?_ (by simp <;> omega) _ | refine Below.to ?_ (by assumption) (Nat.le_refl _))), heap_new _ _ _ rfl⟩
                  case rest =>
                    obtain ⟨rfl, hcb, hcx⟩ := hcut
                    obtain ⟨wj, hwj⟩ : ∃ x, x = wc := ⟨_, rfl⟩
                    subst hwj
                    have HBj : Hid (Below w4.heap.size w4 wj) := Below.to hB2.out hcb.out (Nat.le_refl _)
                    have HXj := hide hcx.out
                    obtain ⟨bx, hbx⟩ : ∃ x, wi.heap.size = x := ⟨_, rfl⟩
                    rw [hbx] at HXj ⊢
                    have HXj : Hid (wj.heap[bx]? = some (.cells #[.int .i64 xa, .int .i64 xb, .bool xwa, .bool xwb] 77 (0, 0))) := HXj
                    obtain ⟨lk, hlk⟩ : ∃ x, lackB m ⟨xa, xb, xwa, xwb⟩ = x := ⟨_, rfl⟩
                    have hfs := filt_split (p := lackB m) HSP.out
                    have hfo := fun hk => filt_in (p := lackB m) (Y := pairsL m.opts.length) (k := (pre.filter (lackB m)).length) hk
                    rw [← HMP.out, hlk] at hfs
                    rw [← HMP.out] at hfo
                    have hcvx : cl.any (hasX ⟨xa, xb, xwa, xwb⟩) = !lk := by rw [← hlk]; exact HCV.out _ HSP.out
                    have hcnt : ((pre ++ [(⟨xa, xb, xwa, xwb⟩ : Lk)]).filter (lackB m)).length = at1 + (if lk = true then 1 else 0) := by
                      rw [List.filter_append, List.length_append, ← hat.out, List.filter_cons, hlk]
                      cases lk <;> rfl
                    rw [← hat.out] at hfs hfo
                    have HLK := hide hlk
                    have HCX := hide hcvx
                    have HCN := hide hcnt
                    have hmlen := HF2.out
                    have hat6 : at1 ≤ 576 := by
                      have h1 := hat.out
                      have h2 := List.length_filter_le (lackB m) pre
                      have h3 := pairs_len (N := m.opts.length) (by omega)
                      rw [HSP.out, List.length_append] at h3
                      omega
                    clear hlk hcvx hcnt hcb hcx
                    go_upto_region 24 with (fail)
                    go_cut [16] from 91 to 102 (fun c wc => c = .bool lk ∧ Hid (Below wj.heap.size wj wc))
                    case first =>
                      have x0 := cellOf HXj.out 0
                      have x1 := cellOf HXj.out 1
                      have x2 := cellOf HXj.out 2
                      have x3 := cellOf HXj.out 3
                      have lx := box_lt HXj.out
                      by_cases hal : at1 < ml.length
                      · obtain ⟨bm, om, hAm, hbm, p0, p1, p2, p3⟩ := lksAt HM4.out hal
                        subst hAm
                        obtain ⟨y, hy⟩ : ∃ z, ml.getD at1 Lk.z = z := ⟨_, rfl⟩
                        rw [hy] at p0 p1 p2 p3
                        have hyl := hfo hal
                        rw [hy] at hyl
                        rw [hy] at hfs
                        obtain ⟨ya, yb, ywa, ywb⟩ := y
                        dsimp only at p0 p1 p2 p3
                        have e0 := (HBj.out.cell (p := ⟨bm, om + at1 * 4, none⟩) hbm).trans p0
                        have e1 := (HBj.out.cell (p := ⟨bm, om + at1 * 4 + 1, none⟩) hbm).trans p1
                        have e2 := (HBj.out.cell (p := ⟨bm, om + at1 * 4 + 2, none⟩) hbm).trans p2
                        have e3 := (HBj.out.cell (p := ⟨bm, om + at1 * 4 + 3, none⟩) hbm).trans p3
                        have lm : bm < wj.heap.size := Nat.lt_of_lt_of_le hbm HBj.out.size
                        have ga0 : (at1 : Int) < (ml.length : Int) := by omega
                        have ga1 : (0 : Int) ≤ (at1 : Int) := by omega
                        have ga2 : decide ((at1 : Int) < (ml.length : Int)) = true := decide_eq_true ga0
                        clear p0 p1 p2 p3 hy
                        cases lk with
                        | true =>
                          have hye := (hfs rfl).2
                          injection hye with h1 h2 h3 h4
                          subst h1 h2 h3 h4
                          clear hfs hfo hyl hal
                          refine wp_region_held_drew (S := (fun w' => Below wj.heap.size wj w')) (by kernel_rfl) ?_ (fun hHeld => ?_)
                          · try dsimp only
                            exact (by repeat (first | exact Below.refl _ _ | assumption | refine Below.drew ?_ | refine Below.drewN ?_ _ | refine Below.allocT ?_ (Nat.le_refl _) _ | refine Below.setCell ?_ (by simp <;> omega) _ | refine Below.to ?_ (by assumption) (Nat.le_refl _)))
                          refine wpAnyH_take (i := 0) (v := ?v2_0) rfl (by kernel_rfl) (by kernel_rfl) (by kernel_rfl) (fun _ _ _ h => h) (Or.inl ⟨by rfl, ?y2_0⟩) (by assumption) ?r2_0
                          case' y2_0 => (intro w hSw; (try dsimp only at hSw); (try have hlS := HLK.out _ hSw); obtain ⟨hcS, hfS⟩ := bcell hSw; clear hSw; go_simp; try with_reducible rfl)
                          try simp only [Act.put, List.getElem_toArray, List.getElem_cons_succ, List.getElem_cons_zero, List.setIfInBounds_toArray, List.set_cons_zero, List.set_cons_succ]
                          refine wpAnyH_take (i := 1) (v := ?v2_1) rfl (by kernel_rfl) (by kernel_rfl) (by kernel_rfl) (fun _ _ _ h => h) (Or.inl ⟨by rfl, ?y2_1⟩) (by assumption) ?r2_1
                          case' y2_1 => (intro w hSw; (try dsimp only at hSw); (try have hlS := HLK.out _ hSw); obtain ⟨hcS, hfS⟩ := bcell hSw; clear hSw; go_simp; try with_reducible rfl)
                          try simp only [Act.put, List.getElem_toArray, List.getElem_cons_succ, List.getElem_cons_zero, List.setIfInBounds_toArray, List.set_cons_zero, List.set_cons_succ]
                          refine wpAnyH_take (i := 2) (v := ?v2_2) rfl (by kernel_rfl) (by kernel_rfl) (by kernel_rfl) (fun _ _ _ h => h) (Or.inl ⟨by rfl, ?y2_2⟩) (by assumption) ?r2_2
                          case' y2_2 => (intro w hSw; (try dsimp only at hSw); (try have hlS := HLK.out _ hSw); obtain ⟨hcS, hfS⟩ := bcell hSw; clear hSw; go_simp; try with_reducible rfl)
                          try simp only [Act.put, List.getElem_toArray, List.getElem_cons_succ, List.getElem_cons_zero, List.setIfInBounds_toArray, List.set_cons_zero, List.set_cons_succ]
                          refine wpAnyH_take (i := 3) (v := ?v2_3) rfl (by kernel_rfl) (by kernel_rfl) (by kernel_rfl) (fun _ _ _ h => h) (Or.inl ⟨by rfl, ?y2_3⟩) (by assumption) ?r2_3
                          case' y2_3 => (intro w hSw; (try dsimp only at hSw); (try have hlS := HLK.out _ hSw); obtain ⟨hcS, hfS⟩ := bcell hSw; clear hSw; go_simp; try with_reducible rfl)
                          try simp only [Act.put, List.getElem_toArray, List.getElem_cons_succ, List.getElem_cons_zero, List.setIfInBounds_toArray, List.set_cons_zero, List.set_cons_succ]
                          refine wpAnyH_take (i := 4) (v := ?v2_4) rfl (by kernel_rfl) (by kernel_rfl) (by kernel_rfl) (fun _ _ _ h => h) (Or.inl ⟨by rfl, ?y2_4⟩) (by assumption) ?r2_4
                          case' y2_4 => (intro w hSw; (try dsimp only at hSw); (try have hlS := HLK.out _ hSw); obtain ⟨hcS, hfS⟩ := bcell hSw; clear hSw; go_simp; try with_reducible rfl)
                          try simp only [Act.put, List.getElem_toArray, List.getElem_cons_succ, List.getElem_cons_zero, List.setIfInBounds_toArray, List.set_cons_zero, List.set_cons_succ]
                          refine wpAnyH_take (i := 5) (v := ?v2_5) rfl (by kernel_rfl) (by kernel_rfl) (by kernel_rfl) (fun _ _ _ h => h) (Or.inl ⟨by rfl, ?y2_5⟩) (by assumption) ?r2_5
                          case' y2_5 => (intro w hSw; (try dsimp only at hSw); (try have hlS := HLK.out _ hSw); obtain ⟨hcS, hfS⟩ := bcell hSw; clear hSw; go_simp; try with_reducible rfl)
                          try simp only [Act.put, List.getElem_toArray, List.getElem_cons_succ, List.getElem_cons_zero, List.setIfInBounds_toArray, List.set_cons_zero, List.set_cons_succ]
                          refine wpAnyH_take (i := 6) (v := ?v2_6) rfl (by kernel_rfl) (by kernel_rfl) (by kernel_rfl) (fun _ _ _ h => h) (Or.inl ⟨by rfl, ?y2_6⟩) (by assumption) ?r2_6
                          case' y2_6 => (intro w hSw; (try dsimp only at hSw); (try have hlS := HLK.out _ hSw); obtain ⟨hcS, hfS⟩ := bcell hSw; clear hSw; go_simp; try with_reducible rfl)
                          try simp only [Act.put, List.getElem_toArray, List.getElem_cons_succ, List.getElem_cons_zero, List.setIfInBounds_toArray, List.set_cons_zero, List.set_cons_succ]
                          refine wpAnyH_take (i := 7) (v := ?v2_7) rfl (by kernel_rfl) (by kernel_rfl) (by kernel_rfl) (fun _ _ _ h => h) (Or.inl ⟨by rfl, ?y2_7⟩) (by assumption) ?r2_7
                          case' y2_7 => (intro w hSw; (try dsimp only at hSw); (try have hlS := HLK.out _ hSw); obtain ⟨hcS, hfS⟩ := bcell hSw; clear hSw; go_simp; try with_reducible rfl)
                          try simp only [Act.put, List.getElem_toArray, List.getElem_cons_succ, List.getElem_cons_zero, List.setIfInBounds_toArray, List.set_cons_zero, List.set_cons_succ]
                          refine wpAnyH_take (i := 8) (v := ?v2_8) rfl (by kernel_rfl) (by kernel_rfl) (by kernel_rfl) (fun _ _ _ h => h) (Or.inl ⟨by rfl, ?y2_8⟩) (by assumption) ?r2_8
                          case' y2_8 => (intro w hSw; (try dsimp only at hSw); (try have hlS := HLK.out _ hSw); obtain ⟨hcS, hfS⟩ := bcell hSw; clear hSw; go_simp; try with_reducible rfl)
                          try simp only [Act.put, List.getElem_toArray, List.getElem_cons_succ, List.getElem_cons_zero, List.setIfInBounds_toArray, List.set_cons_zero, List.set_cons_succ]
                          refine wpAnyH_take (i := 9) (v := ?v2_9) rfl (by kernel_rfl) (by kernel_rfl) (by kernel_rfl) (fun _ _ _ h => h) (Or.inl ⟨by rfl, ?y2_9⟩) (by assumption) ?r2_9
                          case' y2_9 => (intro w hSw; (try dsimp only at hSw); (try have hlS := HLK.out _ hSw); obtain ⟨hcS, hfS⟩ := bcell hSw; clear hSw; go_simp; try with_reducible rfl)
                          try simp only [Act.put, List.getElem_toArray, List.getElem_cons_succ, List.getElem_cons_zero, List.setIfInBounds_toArray, List.set_cons_zero, List.set_cons_succ]
                          refine wpAnyH_take (i := 10) (v := ?v2_10) rfl (by kernel_rfl) (by kernel_rfl) (by kernel_rfl) (fun _ _ _ h => h) (Or.inl ⟨by rfl, ?y2_10⟩) (by assumption) ?r2_10
                          case' y2_10 => (intro w hSw; (try dsimp only at hSw); (try have hlS := HLK.out _ hSw); obtain ⟨hcS, hfS⟩ := bcell hSw; clear hSw; go_simp; try with_reducible rfl)
                          try simp only [Act.put, List.getElem_toArray, List.getElem_cons_succ, List.getElem_cons_zero, List.setIfInBounds_toArray, List.set_cons_zero, List.set_cons_succ]
                          refine wpAnyH_take (i := 11) (v := ?v2_11) rfl (by kernel_rfl) (by kernel_rfl) (by kernel_rfl) (fun _ _ _ h => h) (Or.inl ⟨by rfl, ?y2_11⟩) (by assumption) ?r2_11
                          case' y2_11 => (intro w hSw; (try dsimp only at hSw); (try have hlS := HLK.out _ hSw); obtain ⟨hcS, hfS⟩ := bcell hSw; clear hSw; go_simp; try with_reducible rfl)
                          try simp only [Act.put, List.getElem_toArray, List.getElem_cons_succ, List.getElem_cons_zero, List.setIfInBounds_toArray, List.set_cons_zero, List.set_cons_succ]
                          refine wpAnyH_take (i := 12) (v := ?v2_12) rfl (by kernel_rfl) (by kernel_rfl) (by kernel_rfl) (fun _ _ _ h => h) (Or.inl ⟨by rfl, ?y2_12⟩) (by assumption) ?r2_12
                          case' y2_12 => (intro w hSw; (try dsimp only at hSw); (try have hlS := HLK.out _ hSw); obtain ⟨hcS, hfS⟩ := bcell hSw; clear hSw; go_simp; try with_reducible rfl)
                          try simp only [Act.put, List.getElem_toArray, List.getElem_cons_succ, List.getElem_cons_zero, List.setIfInBounds_toArray, List.set_cons_zero, List.set_cons_succ]
                          refine wpAnyH_done (by kernel_rfl) ?_ _
                          go_wp2_with fail
                          go_meet
                          case rel => exact ⟨rfl, hHeld⟩
                        | false =>
                          have hne : ¬ (ya = xa ∧ yb = xb ∧ ywa = xwa ∧ ywb = xwb) := by
                            rintro ⟨rfl, rfl, rfl, rfl⟩
                            rw [HLK.out] at hyl
                            cases hyl
                          clear hfs hfo hyl hal
                          by_cases o1 : (ya : Int) = (xa : Int)
                          · by_cases o2 : (yb : Int) = (xb : Int)
                            · cases o3 : (ywa == xwa) with
                              | true =>
                                have o4 : (ywb == xwb) = false := by
                                  rw [beq_eq_false_iff_ne]
                                  exact fun e => hne ⟨by omega, by omega, by simpa using o3, e⟩
                                clear hne
                                refine wp_region_held_drew (S := (fun w' => Below wj.heap.size wj w')) (by kernel_rfl) ?_ (fun hHeld => ?_)
                                · try dsimp only
                                  exact (by repeat (first | exact Below.refl _ _ | assumption | refine Below.drew ?_ | refine Below.drewN ?_ _ | refine Below.allocT ?_ (Nat.le_refl _) _ | refine Below.setCell ?_ (by simp <;> omega) _ | refine Below.to ?_ (by assumption) (Nat.le_refl _)))
                                refine wpAnyH_take (i := 0) (v := ?v3_0) rfl (by kernel_rfl) (by kernel_rfl) (by kernel_rfl) (fun _ _ _ h => h) (Or.inl ⟨by rfl, ?y3_0⟩) (by assumption) ?r3_0
                                case' y3_0 => (intro w hSw; (try dsimp only at hSw); (try have hlS := HLK.out _ hSw); obtain ⟨hcS, hfS⟩ := bcell hSw; clear hSw; go_simp; try with_reducible rfl)
                                try simp only [Act.put, List.getElem_toArray, List.getElem_cons_succ, List.getElem_cons_zero, List.setIfInBounds_toArray, List.set_cons_zero, List.set_cons_succ]
                                refine wpAnyH_take (i := 1) (v := ?v3_1) rfl (by kernel_rfl) (by kernel_rfl) (by kernel_rfl) (fun _ _ _ h => h) (Or.inl ⟨by rfl, ?y3_1⟩) (by assumption) ?r3_1
                                case' y3_1 => (intro w hSw; (try dsimp only at hSw); (try have hlS := HLK.out _ hSw); obtain ⟨hcS, hfS⟩ := bcell hSw; clear hSw; go_simp; try with_reducible rfl)
                                try simp only [Act.put, List.getElem_toArray, List.getElem_cons_succ, List.getElem_cons_zero, List.setIfInBounds_toArray, List.set_cons_zero, List.set_cons_succ]
                                refine wpAnyH_take (i := 2) (v := ?v3_2) rfl (by kernel_rfl) (by kernel_rfl) (by kernel_rfl) (fun _ _ _ h => h) (Or.inl ⟨by rfl, ?y3_2⟩) (by assumption) ?r3_2
                                case' y3_2 => (intro w hSw; (try dsimp only at hSw); (try have hlS := HLK.out _ hSw); obtain ⟨hcS, hfS⟩ := bcell hSw; clear hSw; go_simp; try with_reducible rfl)
                                try simp only [Act.put, List.getElem_toArray, List.getElem_cons_succ, List.getElem_cons_zero, List.setIfInBounds_toArray, List.set_cons_zero, List.set_cons_succ]
                                refine wpAnyH_take (i := 3) (v := ?v3_3) rfl (by kernel_rfl) (by kernel_rfl) (by kernel_rfl) (fun _ _ _ h => h) (Or.inl ⟨by rfl, ?y3_3⟩) (by assumption) ?r3_3
                                case' y3_3 => (intro w hSw; (try dsimp only at hSw); (try have hlS := HLK.out _ hSw); obtain ⟨hcS, hfS⟩ := bcell hSw; clear hSw; go_simp; try with_reducible rfl)
                                try simp only [Act.put, List.getElem_toArray, List.getElem_cons_succ, List.getElem_cons_zero, List.setIfInBounds_toArray, List.set_cons_zero, List.set_cons_succ]
                                refine wpAnyH_take (i := 4) (v := ?v3_4) rfl (by kernel_rfl) (by kernel_rfl) (by kernel_rfl) (fun _ _ _ h => h) (Or.inl ⟨by rfl, ?y3_4⟩) (by assumption) ?r3_4
                                case' y3_4 => (intro w hSw; (try dsimp only at hSw); (try have hlS := HLK.out _ hSw); obtain ⟨hcS, hfS⟩ := bcell hSw; clear hSw; go_simp; try with_reducible rfl)
                                try simp only [Act.put, List.getElem_toArray, List.getElem_cons_succ, List.getElem_cons_zero, List.setIfInBounds_toArray, List.set_cons_zero, List.set_cons_succ]
                                refine wpAnyH_take (i := 5) (v := ?v3_5) rfl (by kernel_rfl) (by kernel_rfl) (by kernel_rfl) (fun _ _ _ h => h) (Or.inl ⟨by rfl, ?y3_5⟩) (by assumption) ?r3_5
                                case' y3_5 => (intro w hSw; (try dsimp only at hSw); (try have hlS := HLK.out _ hSw); obtain ⟨hcS, hfS⟩ := bcell hSw; clear hSw; go_simp; try with_reducible rfl)
                                try simp only [Act.put, List.getElem_toArray, List.getElem_cons_succ, List.getElem_cons_zero, List.setIfInBounds_toArray, List.set_cons_zero, List.set_cons_succ]
                                refine wpAnyH_take (i := 6) (v := ?v3_6) rfl (by kernel_rfl) (by kernel_rfl) (by kernel_rfl) (fun _ _ _ h => h) (Or.inl ⟨by rfl, ?y3_6⟩) (by assumption) ?r3_6
                                case' y3_6 => (intro w hSw; (try dsimp only at hSw); (try have hlS := HLK.out _ hSw); obtain ⟨hcS, hfS⟩ := bcell hSw; clear hSw; go_simp; try with_reducible rfl)
                                try simp only [Act.put, List.getElem_toArray, List.getElem_cons_succ, List.getElem_cons_zero, List.setIfInBounds_toArray, List.set_cons_zero, List.set_cons_succ]
                                refine wpAnyH_take (i := 7) (v := ?v3_7) rfl (by kernel_rfl) (by kernel_rfl) (by kernel_rfl) (fun _ _ _ h => h) (Or.inl ⟨by rfl, ?y3_7⟩) (by assumption) ?r3_7
                                case' y3_7 => (intro w hSw; (try dsimp only at hSw); (try have hlS := HLK.out _ hSw); obtain ⟨hcS, hfS⟩ := bcell hSw; clear hSw; go_simp; try with_reducible rfl)
                                try simp only [Act.put, List.getElem_toArray, List.getElem_cons_succ, List.getElem_cons_zero, List.setIfInBounds_toArray, List.set_cons_zero, List.set_cons_succ]
                                refine wpAnyH_take (i := 8) (v := ?v3_8) rfl (by kernel_rfl) (by kernel_rfl) (by kernel_rfl) (fun _ _ _ h => h) (Or.inl ⟨by rfl, ?y3_8⟩) (by assumption) ?r3_8
                                case' y3_8 => (intro w hSw; (try dsimp only at hSw); (try have hlS := HLK.out _ hSw); obtain ⟨hcS, hfS⟩ := bcell hSw; clear hSw; go_simp; try with_reducible rfl)
                                try simp only [Act.put, List.getElem_toArray, List.getElem_cons_succ, List.getElem_cons_zero, List.setIfInBounds_toArray, List.set_cons_zero, List.set_cons_succ]
                                refine wpAnyH_take (i := 9) (v := ?v3_9) rfl (by kernel_rfl) (by kernel_rfl) (by kernel_rfl) (fun _ _ _ h => h) (Or.inl ⟨by rfl, ?y3_9⟩) (by assumption) ?r3_9
                                case' y3_9 => (intro w hSw; (try dsimp only at hSw); (try have hlS := HLK.out _ hSw); obtain ⟨hcS, hfS⟩ := bcell hSw; clear hSw; go_simp; try with_reducible rfl)
                                try simp only [Act.put, List.getElem_toArray, List.getElem_cons_succ, List.getElem_cons_zero, List.setIfInBounds_toArray, List.set_cons_zero, List.set_cons_succ]
                                refine wpAnyH_take (i := 10) (v := ?v3_10) rfl (by kernel_rfl) (by kernel_rfl) (by kernel_rfl) (fun _ _ _ h => h) (Or.inl ⟨by rfl, ?y3_10⟩) (by assumption) ?r3_10
                                case' y3_10 => (intro w hSw; (try dsimp only at hSw); (try have hlS := HLK.out _ hSw); obtain ⟨hcS, hfS⟩ := bcell hSw; clear hSw; go_simp; try with_reducible rfl)
                                try simp only [Act.put, List.getElem_toArray, List.getElem_cons_succ, List.getElem_cons_zero, List.setIfInBounds_toArray, List.set_cons_zero, List.set_cons_succ]
                                refine wpAnyH_take (i := 11) (v := ?v3_11) rfl (by kernel_rfl) (by kernel_rfl) (by kernel_rfl) (fun _ _ _ h => h) (Or.inl ⟨by rfl, ?y3_11⟩) (by assumption) ?r3_11
                                case' y3_11 => (intro w hSw; (try dsimp only at hSw); (try have hlS := HLK.out _ hSw); obtain ⟨hcS, hfS⟩ := bcell hSw; clear hSw; go_simp; try with_reducible rfl)
                                try simp only [Act.put, List.getElem_toArray, List.getElem_cons_succ, List.getElem_cons_zero, List.setIfInBounds_toArray, List.set_cons_zero, List.set_cons_succ]
                                refine wpAnyH_take (i := 12) (v := ?v3_12) rfl (by kernel_rfl) (by kernel_rfl) (by kernel_rfl) (fun _ _ _ h => h) (Or.inl ⟨by rfl, ?y3_12⟩) (by assumption) ?r3_12
                                case' y3_12 => (intro w hSw; (try dsimp only at hSw); (try have hlS := HLK.out _ hSw); obtain ⟨hcS, hfS⟩ := bcell hSw; clear hSw; go_simp; try with_reducible rfl)
                                try simp only [Act.put, List.getElem_toArray, List.getElem_cons_succ, List.getElem_cons_zero, List.setIfInBounds_toArray, List.set_cons_zero, List.set_cons_succ]
                                refine wpAnyH_done (by kernel_rfl) ?_ _
                                go_wp2_with fail
                                go_meet
                                case rel => exact ⟨rfl, hHeld⟩
                              | false =>
                                clear hne
                                refine wp_region_held_drew (S := (fun w' => Below wj.heap.size wj w')) (by kernel_rfl) ?_ (fun hHeld => ?_)
                                · try dsimp only
                                  exact (by repeat (first | exact Below.refl _ _ | assumption | refine Below.drew ?_ | refine Below.drewN ?_ _ | refine Below.allocT ?_ (Nat.le_refl _) _ | refine Below.setCell ?_ (by simp <;> omega) _ | refine Below.to ?_ (by assumption) (Nat.le_refl _)))
                                refine wpAnyH_take (i := 0) (v := ?v4_0) rfl (by kernel_rfl) (by kernel_rfl) (by kernel_rfl) (fun _ _ _ h => h) (Or.inl ⟨by rfl, ?y4_0⟩) (by assumption) ?r4_0
                                case' y4_0 => (intro w hSw; (try dsimp only at hSw); (try have hlS := HLK.out _ hSw); obtain ⟨hcS, hfS⟩ := bcell hSw; clear hSw; go_simp; try with_reducible rfl)
                                try simp only [Act.put, List.getElem_toArray, List.getElem_cons_succ, List.getElem_cons_zero, List.setIfInBounds_toArray, List.set_cons_zero, List.set_cons_succ]
                                refine wpAnyH_take (i := 1) (v := ?v4_1) rfl (by kernel_rfl) (by kernel_rfl) (by kernel_rfl) (fun _ _ _ h => h) (Or.inl ⟨by rfl, ?y4_1⟩) (by assumption) ?r4_1
                                case' y4_1 => (intro w hSw; (try dsimp only at hSw); (try have hlS := HLK.out _ hSw); obtain ⟨hcS, hfS⟩ := bcell hSw; clear hSw; go_simp; try with_reducible rfl)
                                try simp only [Act.put, List.getElem_toArray, List.getElem_cons_succ, List.getElem_cons_zero, List.setIfInBounds_toArray, List.set_cons_zero, List.set_cons_succ]
                                refine wpAnyH_take (i := 2) (v := ?v4_2) rfl (by kernel_rfl) (by kernel_rfl) (by kernel_rfl) (fun _ _ _ h => h) (Or.inl ⟨by rfl, ?y4_2⟩) (by assumption) ?r4_2
                                case' y4_2 => (intro w hSw; (try dsimp only at hSw); (try have hlS := HLK.out _ hSw); obtain ⟨hcS, hfS⟩ := bcell hSw; clear hSw; go_simp; try with_reducible rfl)
                                try simp only [Act.put, List.getElem_toArray, List.getElem_cons_succ, List.getElem_cons_zero, List.setIfInBounds_toArray, List.set_cons_zero, List.set_cons_succ]
                                refine wpAnyH_take (i := 3) (v := ?v4_3) rfl (by kernel_rfl) (by kernel_rfl) (by kernel_rfl) (fun _ _ _ h => h) (Or.inl ⟨by rfl, ?y4_3⟩) (by assumption) ?r4_3
                                case' y4_3 => (intro w hSw; (try dsimp only at hSw); (try have hlS := HLK.out _ hSw); obtain ⟨hcS, hfS⟩ := bcell hSw; clear hSw; go_simp; try with_reducible rfl)
                                try simp only [Act.put, List.getElem_toArray, List.getElem_cons_succ, List.getElem_cons_zero, List.setIfInBounds_toArray, List.set_cons_zero, List.set_cons_succ]
                                refine wpAnyH_take (i := 4) (v := ?v4_4) rfl (by kernel_rfl) (by kernel_rfl) (by kernel_rfl) (fun _ _ _ h => h) (Or.inl ⟨by rfl, ?y4_4⟩) (by assumption) ?r4_4
                                case' y4_4 => (intro w hSw; (try dsimp only at hSw); (try have hlS := HLK.out _ hSw); obtain ⟨hcS, hfS⟩ := bcell hSw; clear hSw; go_simp; try with_reducible rfl)
                                try simp only [Act.put, List.getElem_toArray, List.getElem_cons_succ, List.getElem_cons_zero, List.setIfInBounds_toArray, List.set_cons_zero, List.set_cons_succ]
                                refine wpAnyH_take (i := 5) (v := ?v4_5) rfl (by kernel_rfl) (by kernel_rfl) (by kernel_rfl) (fun _ _ _ h => h) (Or.inl ⟨by rfl, ?y4_5⟩) (by assumption) ?r4_5
                                case' y4_5 => (intro w hSw; (try dsimp only at hSw); (try have hlS := HLK.out _ hSw); obtain ⟨hcS, hfS⟩ := bcell hSw; clear hSw; go_simp; try with_reducible rfl)
                                try simp only [Act.put, List.getElem_toArray, List.getElem_cons_succ, List.getElem_cons_zero, List.setIfInBounds_toArray, List.set_cons_zero, List.set_cons_succ]
                                refine wpAnyH_take (i := 6) (v := ?v4_6) rfl (by kernel_rfl) (by kernel_rfl) (by kernel_rfl) (fun _ _ _ h => h) (Or.inl ⟨by rfl, ?y4_6⟩) (by assumption) ?r4_6
                                case' y4_6 => (intro w hSw; (try dsimp only at hSw); (try have hlS := HLK.out _ hSw); obtain ⟨hcS, hfS⟩ := bcell hSw; clear hSw; go_simp; try with_reducible rfl)
                                try simp only [Act.put, List.getElem_toArray, List.getElem_cons_succ, List.getElem_cons_zero, List.setIfInBounds_toArray, List.set_cons_zero, List.set_cons_succ]
                                refine wpAnyH_take (i := 7) (v := ?v4_7) rfl (by kernel_rfl) (by kernel_rfl) (by kernel_rfl) (fun _ _ _ h => h) (Or.inl ⟨by rfl, ?y4_7⟩) (by assumption) ?r4_7
                                case' y4_7 => (intro w hSw; (try dsimp only at hSw); (try have hlS := HLK.out _ hSw); obtain ⟨hcS, hfS⟩ := bcell hSw; clear hSw; go_simp; try with_reducible rfl)
                                try simp only [Act.put, List.getElem_toArray, List.getElem_cons_succ, List.getElem_cons_zero, List.setIfInBounds_toArray, List.set_cons_zero, List.set_cons_succ]
                                refine wpAnyH_take (i := 8) (v := ?v4_8) rfl (by kernel_rfl) (by kernel_rfl) (by kernel_rfl) (fun _ _ _ h => h) (Or.inl ⟨by rfl, ?y4_8⟩) (by assumption) ?r4_8
                                case' y4_8 => (intro w hSw; (try dsimp only at hSw); (try have hlS := HLK.out _ hSw); obtain ⟨hcS, hfS⟩ := bcell hSw; clear hSw; go_simp; try with_reducible rfl)
                                try simp only [Act.put, List.getElem_toArray, List.getElem_cons_succ, List.getElem_cons_zero, List.setIfInBounds_toArray, List.set_cons_zero, List.set_cons_succ]
                                refine wpAnyH_take (i := 9) (v := ?v4_9) rfl (by kernel_rfl) (by kernel_rfl) (by kernel_rfl) (fun _ _ _ h => h) (Or.inl ⟨by rfl, ?y4_9⟩) (by assumption) ?r4_9
                                case' y4_9 => (intro w hSw; (try dsimp only at hSw); (try have hlS := HLK.out _ hSw); obtain ⟨hcS, hfS⟩ := bcell hSw; clear hSw; go_simp; try with_reducible rfl)
                                try simp only [Act.put, List.getElem_toArray, List.getElem_cons_succ, List.getElem_cons_zero, List.setIfInBounds_toArray, List.set_cons_zero, List.set_cons_succ]
                                refine wpAnyH_take (i := 10) (v := ?v4_10) rfl (by kernel_rfl) (by kernel_rfl) (by kernel_rfl) (fun _ _ _ h => h) (Or.inl ⟨by rfl, ?y4_10⟩) (by assumption) ?r4_10
                                case' y4_10 => (intro w hSw; (try dsimp only at hSw); (try have hlS := HLK.out _ hSw); obtain ⟨hcS, hfS⟩ := bcell hSw; clear hSw; go_simp; try with_reducible rfl)
                                try simp only [Act.put, List.getElem_toArray, List.getElem_cons_succ, List.getElem_cons_zero, List.setIfInBounds_toArray, List.set_cons_zero, List.set_cons_succ]
                                refine wpAnyH_take (i := 11) (v := ?v4_11) rfl (by kernel_rfl) (by kernel_rfl) (by kernel_rfl) (fun _ _ _ h => h) (Or.inl ⟨by rfl, ?y4_11⟩) (by assumption) ?r4_11
                                case' y4_11 => (intro w hSw; (try dsimp only at hSw); (try have hlS := HLK.out _ hSw); obtain ⟨hcS, hfS⟩ := bcell hSw; clear hSw; go_simp; try with_reducible rfl)
                                try simp only [Act.put, List.getElem_toArray, List.getElem_cons_succ, List.getElem_cons_zero, List.setIfInBounds_toArray, List.set_cons_zero, List.set_cons_succ]
                                refine wpAnyH_take (i := 12) (v := ?v4_12) rfl (by kernel_rfl) (by kernel_rfl) (by kernel_rfl) (fun _ _ _ h => h) (Or.inl ⟨by rfl, ?y4_12⟩) (by assumption) ?r4_12
                                case' y4_12 => (intro w hSw; (try dsimp only at hSw); (try have hlS := HLK.out _ hSw); obtain ⟨hcS, hfS⟩ := bcell hSw; clear hSw; go_simp; try with_reducible rfl)
                                try simp only [Act.put, List.getElem_toArray, List.getElem_cons_succ, List.getElem_cons_zero, List.setIfInBounds_toArray, List.set_cons_zero, List.set_cons_succ]
                                refine wpAnyH_done (by kernel_rfl) ?_ _
                                go_wp2_with fail
                                go_meet
                                case rel => exact ⟨rfl, hHeld⟩
                            · clear hne
                              refine wp_region_held_drew (S := (fun w' => Below wj.heap.size wj w')) (by kernel_rfl) ?_ (fun hHeld => ?_)
                              · try dsimp only
                                exact (by repeat (first | exact Below.refl _ _ | assumption | refine Below.drew ?_ | refine Below.drewN ?_ _ | refine Below.allocT ?_ (Nat.le_refl _) _ | refine Below.setCell ?_ (by simp <;> omega) _ | refine Below.to ?_ (by assumption) (Nat.le_refl _)))
                              refine wpAnyH_take (i := 0) (v := ?v5_0) rfl (by kernel_rfl) (by kernel_rfl) (by kernel_rfl) (fun _ _ _ h => h) (Or.inl ⟨by rfl, ?y5_0⟩) (by assumption) ?r5_0
                              case' y5_0 => (intro w hSw; (try dsimp only at hSw); (try have hlS := HLK.out _ hSw); obtain ⟨hcS, hfS⟩ := bcell hSw; clear hSw; go_simp; try with_reducible rfl)
                              try simp only [Act.put, List.getElem_toArray, List.getElem_cons_succ, List.getElem_cons_zero, List.setIfInBounds_toArray, List.set_cons_zero, List.set_cons_succ]
                              refine wpAnyH_take (i := 1) (v := ?v5_1) rfl (by kernel_rfl) (by kernel_rfl) (by kernel_rfl) (fun _ _ _ h => h) (Or.inl ⟨by rfl, ?y5_1⟩) (by assumption) ?r5_1
                              case' y5_1 => (intro w hSw; (try dsimp only at hSw); (try have hlS := HLK.out _ hSw); obtain ⟨hcS, hfS⟩ := bcell hSw; clear hSw; go_simp; try with_reducible rfl)
                              try simp only [Act.put, List.getElem_toArray, List.getElem_cons_succ, List.getElem_cons_zero, List.setIfInBounds_toArray, List.set_cons_zero, List.set_cons_succ]
                              refine wpAnyH_take (i := 2) (v := ?v5_2) rfl (by kernel_rfl) (by kernel_rfl) (by kernel_rfl) (fun _ _ _ h => h) (Or.inl ⟨by rfl, ?y5_2⟩) (by assumption) ?r5_2
                              case' y5_2 => (intro w hSw; (try dsimp only at hSw); (try have hlS := HLK.out _ hSw); obtain ⟨hcS, hfS⟩ := bcell hSw; clear hSw; go_simp; try with_reducible rfl)
                              try simp only [Act.put, List.getElem_toArray, List.getElem_cons_succ, List.getElem_cons_zero, List.setIfInBounds_toArray, List.set_cons_zero, List.set_cons_succ]
                              refine wpAnyH_take (i := 3) (v := ?v5_3) rfl (by kernel_rfl) (by kernel_rfl) (by kernel_rfl) (fun _ _ _ h => h) (Or.inl ⟨by rfl, ?y5_3⟩) (by assumption) ?r5_3
                              case' y5_3 => (intro w hSw; (try dsimp only at hSw); (try have hlS := HLK.out _ hSw); obtain ⟨hcS, hfS⟩ := bcell hSw; clear hSw; go_simp; try with_reducible rfl)
                              try simp only [Act.put, List.getElem_toArray, List.getElem_cons_succ, List.getElem_cons_zero, List.setIfInBounds_toArray, List.set_cons_zero, List.set_cons_succ]
                              refine wpAnyH_take (i := 4) (v := ?v5_4) rfl (by kernel_rfl) (by kernel_rfl) (by kernel_rfl) (fun _ _ _ h => h) (Or.inl ⟨by rfl, ?y5_4⟩) (by assumption) ?r5_4
                              case' y5_4 => (intro w hSw; (try dsimp only at hSw); (try have hlS := HLK.out _ hSw); obtain ⟨hcS, hfS⟩ := bcell hSw; clear hSw; go_simp; try with_reducible rfl)
                              try simp only [Act.put, List.getElem_toArray, List.getElem_cons_succ, List.getElem_cons_zero, List.setIfInBounds_toArray, List.set_cons_zero, List.set_cons_succ]
                              refine wpAnyH_take (i := 5) (v := ?v5_5) rfl (by kernel_rfl) (by kernel_rfl) (by kernel_rfl) (fun _ _ _ h => h) (Or.inl ⟨by rfl, ?y5_5⟩) (by assumption) ?r5_5
                              case' y5_5 => (intro w hSw; (try dsimp only at hSw); (try have hlS := HLK.out _ hSw); obtain ⟨hcS, hfS⟩ := bcell hSw; clear hSw; go_simp; try with_reducible rfl)
                              try simp only [Act.put, List.getElem_toArray, List.getElem_cons_succ, List.getElem_cons_zero, List.setIfInBounds_toArray, List.set_cons_zero, List.set_cons_succ]
                              refine wpAnyH_take (i := 6) (v := ?v5_6) rfl (by kernel_rfl) (by kernel_rfl) (by kernel_rfl) (fun _ _ _ h => h) (Or.inl ⟨by rfl, ?y5_6⟩) (by assumption) ?r5_6
                              case' y5_6 => (intro w hSw; (try dsimp only at hSw); (try have hlS := HLK.out _ hSw); obtain ⟨hcS, hfS⟩ := bcell hSw; clear hSw; go_simp; try with_reducible rfl)
                              try simp only [Act.put, List.getElem_toArray, List.getElem_cons_succ, List.getElem_cons_zero, List.setIfInBounds_toArray, List.set_cons_zero, List.set_cons_succ]
                              refine wpAnyH_take (i := 7) (v := ?v5_7) rfl (by kernel_rfl) (by kernel_rfl) (by kernel_rfl) (fun _ _ _ h => h) (Or.inl ⟨by rfl, ?y5_7⟩) (by assumption) ?r5_7
                              case' y5_7 => (intro w hSw; (try dsimp only at hSw); (try have hlS := HLK.out _ hSw); obtain ⟨hcS, hfS⟩ := bcell hSw; clear hSw; go_simp; try with_reducible rfl)
                              try simp only [Act.put, List.getElem_toArray, List.getElem_cons_succ, List.getElem_cons_zero, List.setIfInBounds_toArray, List.set_cons_zero, List.set_cons_succ]
                              refine wpAnyH_take (i := 8) (v := ?v5_8) rfl (by kernel_rfl) (by kernel_rfl) (by kernel_rfl) (fun _ _ _ h => h) (Or.inl ⟨by rfl, ?y5_8⟩) (by assumption) ?r5_8
                              case' y5_8 => (intro w hSw; (try dsimp only at hSw); (try have hlS := HLK.out _ hSw); obtain ⟨hcS, hfS⟩ := bcell hSw; clear hSw; go_simp; try with_reducible rfl)
                              try simp only [Act.put, List.getElem_toArray, List.getElem_cons_succ, List.getElem_cons_zero, List.setIfInBounds_toArray, List.set_cons_zero, List.set_cons_succ]
                              refine wpAnyH_take (i := 9) (v := ?v5_9) rfl (by kernel_rfl) (by kernel_rfl) (by kernel_rfl) (fun _ _ _ h => h) (Or.inl ⟨by rfl, ?y5_9⟩) (by assumption) ?r5_9
                              case' y5_9 => (intro w hSw; (try dsimp only at hSw); (try have hlS := HLK.out _ hSw); obtain ⟨hcS, hfS⟩ := bcell hSw; clear hSw; go_simp; try with_reducible rfl)
                              try simp only [Act.put, List.getElem_toArray, List.getElem_cons_succ, List.getElem_cons_zero, List.setIfInBounds_toArray, List.set_cons_zero, List.set_cons_succ]
                              refine wpAnyH_take (i := 10) (v := ?v5_10) rfl (by kernel_rfl) (by kernel_rfl) (by kernel_rfl) (fun _ _ _ h => h) (Or.inl ⟨by rfl, ?y5_10⟩) (by assumption) ?r5_10
                              case' y5_10 => (intro w hSw; (try dsimp only at hSw); (try have hlS := HLK.out _ hSw); obtain ⟨hcS, hfS⟩ := bcell hSw; clear hSw; go_simp; try with_reducible rfl)
                              try simp only [Act.put, List.getElem_toArray, List.getElem_cons_succ, List.getElem_cons_zero, List.setIfInBounds_toArray, List.set_cons_zero, List.set_cons_succ]
                              refine wpAnyH_take (i := 11) (v := ?v5_11) rfl (by kernel_rfl) (by kernel_rfl) (by kernel_rfl) (fun _ _ _ h => h) (Or.inl ⟨by rfl, ?y5_11⟩) (by assumption) ?r5_11
                              case' y5_11 => (intro w hSw; (try dsimp only at hSw); (try have hlS := HLK.out _ hSw); obtain ⟨hcS, hfS⟩ := bcell hSw; clear hSw; go_simp; try with_reducible rfl)
                              try simp only [Act.put, List.getElem_toArray, List.getElem_cons_succ, List.getElem_cons_zero, List.setIfInBounds_toArray, List.set_cons_zero, List.set_cons_succ]
                              refine wpAnyH_take (i := 12) (v := ?v5_12) rfl (by kernel_rfl) (by kernel_rfl) (by kernel_rfl) (fun _ _ _ h => h) (Or.inl ⟨by rfl, ?y5_12⟩) (by assumption) ?r5_12
                              case' y5_12 => (intro w hSw; (try dsimp only at hSw); (try have hlS := HLK.out _ hSw); obtain ⟨hcS, hfS⟩ := bcell hSw; clear hSw; go_simp; try with_reducible rfl)
                              try simp only [Act.put, List.getElem_toArray, List.getElem_cons_succ, List.getElem_cons_zero, List.setIfInBounds_toArray, List.set_cons_zero, List.set_cons_succ]
                              refine wpAnyH_done (by kernel_rfl) ?_ _
                              go_wp2_with fail
                              go_meet
                              case rel => exact ⟨rfl, hHeld⟩
                          · clear hne
                            refine wp_region_held_drew (S := (fun w' => Below wj.heap.size wj w')) (by kernel_rfl) ?_ (fun hHeld => ?_)
                            · try dsimp only
                              exact (by repeat (first | exact Below.refl _ _ | assumption | refine Below.drew ?_ | refine Below.drewN ?_ _ | refine Below.allocT ?_ (Nat.le_refl _) _ | refine Below.setCell ?_ (by simp <;> omega) _ | refine Below.to ?_ (by assumption) (Nat.le_refl _)))
                            refine wpAnyH_take (i := 0) (v := ?v6_0) rfl (by kernel_rfl) (by kernel_rfl) (by kernel_rfl) (fun _ _ _ h => h) (Or.inl ⟨by rfl, ?y6_0⟩) (by assumption) ?r6_0
                            case' y6_0 => (intro w hSw; (try dsimp only at hSw); (try have hlS := HLK.out _ hSw); obtain ⟨hcS, hfS⟩ := bcell hSw; clear hSw; go_simp; try with_reducible rfl)
                            try simp only [Act.put, List.getElem_toArray, List.getElem_cons_succ, List.getElem_cons_zero, List.setIfInBounds_toArray, List.set_cons_zero, List.set_cons_succ]
                            refine wpAnyH_take (i := 1) (v := ?v6_1) rfl (by kernel_rfl) (by kernel_rfl) (by kernel_rfl) (fun _ _ _ h => h) (Or.inl ⟨by rfl, ?y6_1⟩) (by assumption) ?r6_1
                            case' y6_1 => (intro w hSw; (try dsimp only at hSw); (try have hlS := HLK.out _ hSw); obtain ⟨hcS, hfS⟩ := bcell hSw; clear hSw; go_simp; try with_reducible rfl)
                            try simp only [Act.put, List.getElem_toArray, List.getElem_cons_succ, List.getElem_cons_zero, List.setIfInBounds_toArray, List.set_cons_zero, List.set_cons_succ]
                            refine wpAnyH_take (i := 2) (v := ?v6_2) rfl (by kernel_rfl) (by kernel_rfl) (by kernel_rfl) (fun _ _ _ h => h) (Or.inl ⟨by rfl, ?y6_2⟩) (by assumption) ?r6_2
                            case' y6_2 => (intro w hSw; (try dsimp only at hSw); (try have hlS := HLK.out _ hSw); obtain ⟨hcS, hfS⟩ := bcell hSw; clear hSw; go_simp; try with_reducible rfl)
                            try simp only [Act.put, List.getElem_toArray, List.getElem_cons_succ, List.getElem_cons_zero, List.setIfInBounds_toArray, List.set_cons_zero, List.set_cons_succ]
                            refine wpAnyH_take (i := 3) (v := ?v6_3) rfl (by kernel_rfl) (by kernel_rfl) (by kernel_rfl) (fun _ _ _ h => h) (Or.inl ⟨by rfl, ?y6_3⟩) (by assumption) ?r6_3
                            case' y6_3 => (intro w hSw; (try dsimp only at hSw); (try have hlS := HLK.out _ hSw); obtain ⟨hcS, hfS⟩ := bcell hSw; clear hSw; go_simp; try with_reducible rfl)
                            try simp only [Act.put, List.getElem_toArray, List.getElem_cons_succ, List.getElem_cons_zero, List.setIfInBounds_toArray, List.set_cons_zero, List.set_cons_succ]
                            refine wpAnyH_take (i := 4) (v := ?v6_4) rfl (by kernel_rfl) (by kernel_rfl) (by kernel_rfl) (fun _ _ _ h => h) (Or.inl ⟨by rfl, ?y6_4⟩) (by assumption) ?r6_4
                            case' y6_4 => (intro w hSw; (try dsimp only at hSw); (try have hlS := HLK.out _ hSw); obtain ⟨hcS, hfS⟩ := bcell hSw; clear hSw; go_simp; try with_reducible rfl)
                            try simp only [Act.put, List.getElem_toArray, List.getElem_cons_succ, List.getElem_cons_zero, List.setIfInBounds_toArray, List.set_cons_zero, List.set_cons_succ]
                            refine wpAnyH_take (i := 5) (v := ?v6_5) rfl (by kernel_rfl) (by kernel_rfl) (by kernel_rfl) (fun _ _ _ h => h) (Or.inl ⟨by rfl, ?y6_5⟩) (by assumption) ?r6_5
                            case' y6_5 => (intro w hSw; (try dsimp only at hSw); (try have hlS := HLK.out _ hSw); obtain ⟨hcS, hfS⟩ := bcell hSw; clear hSw; go_simp; try with_reducible rfl)
                            try simp only [Act.put, List.getElem_toArray, List.getElem_cons_succ, List.getElem_cons_zero, List.setIfInBounds_toArray, List.set_cons_zero, List.set_cons_succ]
                            refine wpAnyH_take (i := 6) (v := ?v6_6) rfl (by kernel_rfl) (by kernel_rfl) (by kernel_rfl) (fun _ _ _ h => h) (Or.inl ⟨by rfl, ?y6_6⟩) (by assumption) ?r6_6
                            case' y6_6 => (intro w hSw; (try dsimp only at hSw); (try have hlS := HLK.out _ hSw); obtain ⟨hcS, hfS⟩ := bcell hSw; clear hSw; go_simp; try with_reducible rfl)
                            try simp only [Act.put, List.getElem_toArray, List.getElem_cons_succ, List.getElem_cons_zero, List.setIfInBounds_toArray, List.set_cons_zero, List.set_cons_succ]
                            refine wpAnyH_take (i := 7) (v := ?v6_7) rfl (by kernel_rfl) (by kernel_rfl) (by kernel_rfl) (fun _ _ _ h => h) (Or.inl ⟨by rfl, ?y6_7⟩) (by assumption) ?r6_7
                            case' y6_7 => (intro w hSw; (try dsimp only at hSw); (try have hlS := HLK.out _ hSw); obtain ⟨hcS, hfS⟩ := bcell hSw; clear hSw; go_simp; try with_reducible rfl)
                            try simp only [Act.put, List.getElem_toArray, List.getElem_cons_succ, List.getElem_cons_zero, List.setIfInBounds_toArray, List.set_cons_zero, List.set_cons_succ]
                            refine wpAnyH_take (i := 8) (v := ?v6_8) rfl (by kernel_rfl) (by kernel_rfl) (by kernel_rfl) (fun _ _ _ h => h) (Or.inl ⟨by rfl, ?y6_8⟩) (by assumption) ?r6_8
                            case' y6_8 => (intro w hSw; (try dsimp only at hSw); (try have hlS := HLK.out _ hSw); obtain ⟨hcS, hfS⟩ := bcell hSw; clear hSw; go_simp; try with_reducible rfl)
                            try simp only [Act.put, List.getElem_toArray, List.getElem_cons_succ, List.getElem_cons_zero, List.setIfInBounds_toArray, List.set_cons_zero, List.set_cons_succ]
                            refine wpAnyH_take (i := 9) (v := ?v6_9) rfl (by kernel_rfl) (by kernel_rfl) (by kernel_rfl) (fun _ _ _ h => h) (Or.inl ⟨by rfl, ?y6_9⟩) (by assumption) ?r6_9
                            case' y6_9 => (intro w hSw; (try dsimp only at hSw); (try have hlS := HLK.out _ hSw); obtain ⟨hcS, hfS⟩ := bcell hSw; clear hSw; go_simp; try with_reducible rfl)
                            try simp only [Act.put, List.getElem_toArray, List.getElem_cons_succ, List.getElem_cons_zero, List.setIfInBounds_toArray, List.set_cons_zero, List.set_cons_succ]
                            refine wpAnyH_take (i := 10) (v := ?v6_10) rfl (by kernel_rfl) (by kernel_rfl) (by kernel_rfl) (fun _ _ _ h => h) (Or.inl ⟨by rfl, ?y6_10⟩) (by assumption) ?r6_10
                            case' y6_10 => (intro w hSw; (try dsimp only at hSw); (try have hlS := HLK.out _ hSw); obtain ⟨hcS, hfS⟩ := bcell hSw; clear hSw; go_simp; try with_reducible rfl)
                            try simp only [Act.put, List.getElem_toArray, List.getElem_cons_succ, List.getElem_cons_zero, List.setIfInBounds_toArray, List.set_cons_zero, List.set_cons_succ]
                            refine wpAnyH_take (i := 11) (v := ?v6_11) rfl (by kernel_rfl) (by kernel_rfl) (by kernel_rfl) (fun _ _ _ h => h) (Or.inl ⟨by rfl, ?y6_11⟩) (by assumption) ?r6_11
                            case' y6_11 => (intro w hSw; (try dsimp only at hSw); (try have hlS := HLK.out _ hSw); obtain ⟨hcS, hfS⟩ := bcell hSw; clear hSw; go_simp; try with_reducible rfl)
                            try simp only [Act.put, List.getElem_toArray, List.getElem_cons_succ, List.getElem_cons_zero, List.setIfInBounds_toArray, List.set_cons_zero, List.set_cons_succ]
                            refine wpAnyH_take (i := 12) (v := ?v6_12) rfl (by kernel_rfl) (by kernel_rfl) (by kernel_rfl) (fun _ _ _ h => h) (Or.inl ⟨by rfl, ?y6_12⟩) (by assumption) ?r6_12
                            case' y6_12 => (intro w hSw; (try dsimp only at hSw); (try have hlS := HLK.out _ hSw); obtain ⟨hcS, hfS⟩ := bcell hSw; clear hSw; go_simp; try with_reducible rfl)
                            try simp only [Act.put, List.getElem_toArray, List.getElem_cons_succ, List.getElem_cons_zero, List.setIfInBounds_toArray, List.set_cons_zero, List.set_cons_succ]
                            refine wpAnyH_done (by kernel_rfl) ?_ _
                            go_wp2_with fail
                            go_meet
                            case rel => exact ⟨rfl, hHeld⟩
                      · have hlf : lk = false := by
                          cases lk with
                          | false => rfl
                          | true => exact absurd (hfs rfl).1 hal
                        subst hlf
                        have ga0 : ¬ (at1 : Int) < (ml.length : Int) := by omega
                        have ga2 : decide ((at1 : Int) < (ml.length : Int)) = false := decide_eq_false ga0
                        clear hfs hfo hal
                        refine wp_region_held_drew (S := (fun w' => Below wj.heap.size wj w')) (by kernel_rfl) ?_ (fun hHeld => ?_)
                        · try dsimp only
                          exact (by repeat (first | exact Below.refl _ _ | assumption | refine Below.drew ?_ | refine Below.drewN ?_ _ | refine Below.allocT ?_ (Nat.le_refl _) _ | refine Below.setCell ?_ (by simp <;> omega) _ | refine Below.to ?_ (by assumption) (Nat.le_refl _)))
                        refine wpAnyH_take (i := 0) (v := ?v7_0) rfl (by kernel_rfl) (by kernel_rfl) (by kernel_rfl) (fun _ _ _ h => h) (Or.inl ⟨by rfl, ?y7_0⟩) (by assumption) ?r7_0
                        case' y7_0 => (intro w hSw; (try dsimp only at hSw); (try have hlS := HLK.out _ hSw); obtain ⟨hcS, hfS⟩ := bcell hSw; clear hSw; go_simp; try with_reducible rfl)
                        try simp only [Act.put, List.getElem_toArray, List.getElem_cons_succ, List.getElem_cons_zero, List.setIfInBounds_toArray, List.set_cons_zero, List.set_cons_succ]
                        refine wpAnyH_take (i := 1) (v := ?v7_1) rfl (by kernel_rfl) (by kernel_rfl) (by kernel_rfl) (fun _ _ _ h => h) (Or.inl ⟨by rfl, ?y7_1⟩) (by assumption) ?r7_1
                        case' y7_1 => (intro w hSw; (try dsimp only at hSw); (try have hlS := HLK.out _ hSw); obtain ⟨hcS, hfS⟩ := bcell hSw; clear hSw; go_simp; try with_reducible rfl)
                        try simp only [Act.put, List.getElem_toArray, List.getElem_cons_succ, List.getElem_cons_zero, List.setIfInBounds_toArray, List.set_cons_zero, List.set_cons_succ]
                        refine wpAnyH_take (i := 2) (v := ?v7_2) rfl (by kernel_rfl) (by kernel_rfl) (by kernel_rfl) (fun _ _ _ h => h) (Or.inl ⟨by rfl, ?y7_2⟩) (by assumption) ?r7_2
                        case' y7_2 => (intro w hSw; (try dsimp only at hSw); (try have hlS := HLK.out _ hSw); obtain ⟨hcS, hfS⟩ := bcell hSw; clear hSw; go_simp; try with_reducible rfl)
                        try simp only [Act.put, List.getElem_toArray, List.getElem_cons_succ, List.getElem_cons_zero, List.setIfInBounds_toArray, List.set_cons_zero, List.set_cons_succ]
                        refine wpAnyH_take (i := 3) (v := ?v7_3) rfl (by kernel_rfl) (by kernel_rfl) (by kernel_rfl) (fun _ _ _ h => h) (Or.inl ⟨by rfl, ?y7_3⟩) (by assumption) ?r7_3
                        case' y7_3 => (intro w hSw; (try dsimp only at hSw); (try have hlS := HLK.out _ hSw); obtain ⟨hcS, hfS⟩ := bcell hSw; clear hSw; go_simp; try with_reducible rfl)
                        try simp only [Act.put, List.getElem_toArray, List.getElem_cons_succ, List.getElem_cons_zero, List.setIfInBounds_toArray, List.set_cons_zero, List.set_cons_succ]
                        refine wpAnyH_take (i := 4) (v := ?v7_4) rfl (by kernel_rfl) (by kernel_rfl) (by kernel_rfl) (fun _ _ _ h => h) (Or.inl ⟨by rfl, ?y7_4⟩) (by assumption) ?r7_4
                        case' y7_4 => (intro w hSw; (try dsimp only at hSw); (try have hlS := HLK.out _ hSw); obtain ⟨hcS, hfS⟩ := bcell hSw; clear hSw; go_simp; try with_reducible rfl)
                        try simp only [Act.put, List.getElem_toArray, List.getElem_cons_succ, List.getElem_cons_zero, List.setIfInBounds_toArray, List.set_cons_zero, List.set_cons_succ]
                        refine wpAnyH_take (i := 5) (v := undef) rfl (by kernel_rfl) (by kernel_rfl) (by kernel_rfl) (fun _ _ _ h => h) (Or.inr ⟨?w7_5, rfl⟩) (by assumption) ?r7_5
                        case' w7_5 => first | rfl | (simp [Region.wanted, yielded, *]; done)
                        try simp only [Act.put, List.getElem_toArray, List.getElem_cons_succ, List.getElem_cons_zero, List.setIfInBounds_toArray, List.set_cons_zero, List.set_cons_succ]
                        refine wpAnyH_take (i := 6) (v := undef) rfl (by kernel_rfl) (by kernel_rfl) (by kernel_rfl) (fun _ _ _ h => h) (Or.inr ⟨?w7_6, rfl⟩) (by assumption) ?r7_6
                        case' w7_6 => first | rfl | (simp [Region.wanted, yielded, *]; done)
                        try simp only [Act.put, List.getElem_toArray, List.getElem_cons_succ, List.getElem_cons_zero, List.setIfInBounds_toArray, List.set_cons_zero, List.set_cons_succ]
                        refine wpAnyH_take (i := 7) (v := undef) rfl (by kernel_rfl) (by kernel_rfl) (by kernel_rfl) (fun _ _ _ h => h) (Or.inr ⟨?w7_7, rfl⟩) (by assumption) ?r7_7
                        case' w7_7 => first | rfl | (simp [Region.wanted, yielded, *]; done)
                        try simp only [Act.put, List.getElem_toArray, List.getElem_cons_succ, List.getElem_cons_zero, List.setIfInBounds_toArray, List.set_cons_zero, List.set_cons_succ]
                        refine wpAnyH_take (i := 8) (v := undef) rfl (by kernel_rfl) (by kernel_rfl) (by kernel_rfl) (fun _ _ _ h => h) (Or.inr ⟨?w7_8, rfl⟩) (by assumption) ?r7_8
                        case' w7_8 => first | rfl | (simp [Region.wanted, yielded, *]; done)
                        try simp only [Act.put, List.getElem_toArray, List.getElem_cons_succ, List.getElem_cons_zero, List.setIfInBounds_toArray, List.set_cons_zero, List.set_cons_succ]
                        refine wpAnyH_take (i := 9) (v := undef) rfl (by kernel_rfl) (by kernel_rfl) (by kernel_rfl) (fun _ _ _ h => h) (Or.inr ⟨?w7_9, rfl⟩) (by assumption) ?r7_9
                        case' w7_9 => first | rfl | (simp [Region.wanted, yielded, *]; done)
                        try simp only [Act.put, List.getElem_toArray, List.getElem_cons_succ, List.getElem_cons_zero, List.setIfInBounds_toArray, List.set_cons_zero, List.set_cons_succ]
                        refine wpAnyH_take (i := 10) (v := undef) rfl (by kernel_rfl) (by kernel_rfl) (by kernel_rfl) (fun _ _ _ h => h) (Or.inr ⟨?w7_10, rfl⟩) (by assumption) ?r7_10
                        case' w7_10 => first | rfl | (simp [Region.wanted, yielded, *]; done)
                        try simp only [Act.put, List.getElem_toArray, List.getElem_cons_succ, List.getElem_cons_zero, List.setIfInBounds_toArray, List.set_cons_zero, List.set_cons_succ]
                        refine wpAnyH_take (i := 11) (v := ?v7_11) rfl (by kernel_rfl) (by kernel_rfl) (by kernel_rfl) (fun _ _ _ h => h) (Or.inl ⟨by rfl, ?y7_11⟩) (by assumption) ?r7_11
                        case' y7_11 => (intro w hSw; (try dsimp only at hSw); (try have hlS := HLK.out _ hSw); obtain ⟨hcS, hfS⟩ := bcell hSw; clear hSw; go_simp; try with_reducible rfl)
                        try simp only [Act.put, List.getElem_toArray, List.getElem_cons_succ, List.getElem_cons_zero, List.setIfInBounds_toArray, List.set_cons_zero, List.set_cons_succ]
                        refine wpAnyH_take (i := 12) (v := ?v7_12) rfl (by kernel_rfl) (by kernel_rfl) (by kernel_rfl) (fun _ _ _ h => h) (Or.inl ⟨by rfl, ?y7_12⟩) (by assumption) ?r7_12
                        case' y7_12 => (intro w hSw; (try dsimp only at hSw); (try have hlS := HLK.out _ hSw); obtain ⟨hcS, hfS⟩ := bcell hSw; clear hSw; go_simp; try with_reducible rfl)
                        try simp only [Act.put, List.getElem_toArray, List.getElem_cons_succ, List.getElem_cons_zero, List.setIfInBounds_toArray, List.set_cons_zero, List.set_cons_succ]
                        refine wpAnyH_done (by kernel_rfl) ?_ _
                        go_wp2_with fail
                        go_meet
                        case rel => exact ⟨rfl, hHeld⟩
                    case rest =>
                      obtain ⟨rfl, hcb⟩ := hcut
                      obtain ⟨wl, hwl⟩ : ∃ x, x = wc := ⟨_, rfl⟩
                      subst hwl
                      have HBl : Hid (Below w4.heap.size w4 wl) := Below.to HBj.out hcb.out (Nat.le_refl _)
                      have hbl := box_to HXj.out hcb.out
                      have x0 := cellOf hbl 0
                      have x1 := cellOf hbl 1
                      have x2 := cellOf hbl 2
                      have x3 := cellOf hbl 3
                      have lx := box_lt hbl
                      have hcov := covered_any cl m.opts.length ⟨xa, xb, xwa, xwb⟩ (.slice Ac cl.length capc) wl (HV4.out.up HBl.out) (fun y hy => allM_len (HCM.out y hy)) HN2.out (by have := HF3.out; omega) hlt hlt2
                      rw [HCX.out] at hcov
                      have HCO := hide hcov
                      clear hcov hcb hbl hfs hfo
                      cases lk with
                      | true =>
                        go_wp2_with (go_at_call 58; refine HCO.out.mono ?_; rintro e wq ⟨rfl, hBq⟩; have HBq := hide hBq; clear hBq)
                        go_roundw
                        case rel => exact ⟨k + 1, at1 + 1, by omega, by go_num, by go_num, (by show _ = ((pairsN m.opts.length xa ++ rowN xa d ++ (quadN xa xb k ++ [lkAt xa xb k])).filter (lackB m)).length; rw [← List.append_assoc, HPRE.out, HXX.out, HCN.out]; rfl), Below.to HBl.out HBq.out (Nat.le_refl _)⟩
                        case measure => simp [intOf]; omega
                      | false =>
                        go_wp2_with (go_at_call 58; refine HCO.out.mono ?_; rintro e wq ⟨rfl, hBq⟩; have HBq := hide hBq; clear hBq)
                        go_roundw
                        case rel => exact ⟨k + 1, at1, by omega, by go_num, by go_num, (by show _ = ((pairsN m.opts.length xa ++ rowN xa d ++ (quadN xa xb k ++ [lkAt xa xb k])).filter (lackB m)).length; rw [← List.append_assoc, HPRE.out, HXX.out, HCN.out]; rfl), Below.to HBl.out HBq.out (Nat.le_refl _)⟩
                        case measure => simp [intOf]; omega
                · obtain rfl : k = 4 := by omega
                  go_wp2_with fail
                  go_roundw
                  case rel =>
                    refine ⟨d + 1, b + 1, at1, by omega, (by have := hb.out; show b + 1 = a + 1 + (d + 1); omega), by go_num, rfl, ?_, hB2.out⟩
                    show at1 = ((pairsN m.opts.length a ++ (rowN a d ++ quadN a (a + 1 + d) 4)).filter (lackB m)).length
                    rw [← List.append_assoc, ← hb.out]
                    exact hat.out
                  case measure => simp [intOf]; omega
            · have gb : ¬ (b : Int) < (m.opts.length : Int) := by omega
              go_wp2_with fail
              go_roundw
              case rel =>
                refine ⟨a + 1, at1, by omega, by go_num, rfl, ?_, hB1.out⟩
                obtain rfl : d = m.opts.length - (a + 1) := by have := hb.out; omega
                exact hat.out
              case measure => simp [intOf]; omega
        · obtain rfl : a = m.opts.length := by omega
          have ga : ¬ (m.opts.length : Int) < (m.opts.length : Int) := by omega
          have hae : at1 = ml.length := by rw [HMP.out]; exact hat.out
          subst hae
          have n2 : ((ml.length : Int) != (ml.length : Int)) = false := by simp
          obtain ⟨w5, hw5⟩ : ∃ x, x = wr := ⟨_, rfl⟩
          subst hw5
          have HB5 : Hid (Below w.heap.size w w5) := Below.to HB4.out hB.out (Nat.le_refl _)
          have HX5 := hide (box_to HX4.out hB.out)
          have HV5 : Hid (Vars w5 w5.heap.size (.slice Ac cl.length capc) cl) := HV4.out.up hB.out
          obtain ⟨fe, hfe⟩ : ∃ x, fixE m = x := ⟨_, rfl⟩
          obtain ⟨fl, hfl⟩ : ∃ x, fixL m = x := ⟨_, rfl⟩
          have HFF := hide (And.intro hfl hfe)
          clear hat hB
          go_upto_region 32 with (go_at_call 52; refine (Fixed_any m _ _ _ HS.out (H.out.up HB5.out) HN.out).mono ?_; unfold FixP; rw [HFF.out.1, HFF.out.2]; rintro e w6 ⟨v6, rfl, hf6, hB6⟩; have HB6 : Hid (Below w.heap.size w w6) := Below.to HB5.out hB6 (Nat.le_refl _); have HX6 := hide (box_to HX5.out hB6); clear d0 d1 l0; have d0 := cellOf HX6.out 0; have d1 := cellOf HX6.out 1; have l0 := box_lt HX6.out; obtain ⟨Af, bf, offf, capf, hvf, hnf, hAf, hcf⟩ := hf6; subst hvf; have HAF := hide hAf; have HCF := hide hcf; have HV6 : Hid (Vars w6 w6.heap.size (.slice Ac cl.length capc) cl) := HV5.out.up hB6; clear hB6 hnf hAf hcf)
          rcases HFC.out with ⟨h12, hcn⟩ | ⟨h00, hne⟩
          · rw [hfe] at h12
            subst h12 hcn
            clear hfe hfl
            go_wp2_with (go_at_call 20; refine (works_any _).mono ?_; rintro e w99 ⟨rfl, hB99⟩)
            go_ret
            exact ⟨rfl, Below.to HB6.out hB99 (Nat.le_refl _)⟩
          · have hfr := HFL.out h00
            rw [hfe] at h00
            subst h00
            rw [hfl] at hfr
            have hfn : fl.length = m.opts.length := by rw [hfr]; simp
            have hfat : ∀ o, o < m.opts.length → fl.getD o 0 = fixAt m o := fun o ho => by
              rw [hfr, List.getD_eq_getElem?_getD, List.getElem?_map, List.getElem?_range ho]; rfl
            have n3 : ((fl.length : Int) != (m.opts.length : Int)) = false := by simp; omega
            have HNE := hide hne
            have HFN := hide hfn
            have HFA := hide hfat
            clear hfe hfl hfr hfn hfat hne
            go_upto_region 37 with (fail)
            clear d0 d1 l0
            go_loopw [18] (fun i wr => ∃ k : Nat, k ≤ fl.length ∧ i = .int .i64 k ∧ Hid (Below w6.heap.size w6 wr)) (fun i _ => fl.length - (intOf i).toNat)
            case atStart => exact ⟨0, Nat.zero_le _, rfl, Below.refl _ _⟩
            case round =>
              obtain ⟨k, hk, rfl, hB⟩ := hrel
              have hk12 : k ≤ 12 := by have := HFN.out; have := HN2.out; omega
              by_cases hlt : k < fl.length
              · have hkN : k < m.opts.length := by have := HFN.out; omega
                have gi0 : (k : Int) < (fl.length : Int) := by omega
                have gi1 : (0 : Int) ≤ (k : Int) := by omega
                obtain ⟨rfl, hbf⟩ : Af = some ⟨bf, offf, none⟩ ∧ bf < w6.heap.size := by
                  rcases HAF.out with h | h
                  · exact h
                  · omega
                have p0 : w6.cell? ⟨bf, offf + k, none⟩ = some (.int .i64 (fixAt m k)) := by
                  have h1 := HCF.out k 0 hlt (by omega)
                  rw [Nat.mul_one, Nat.add_zero, HFA.out k hkN] at h1
                  exact h1
                have HP0 := hide p0
                have h3 := HFX.out k HNE.out hkN
                obtain ⟨t1, ht1⟩ : ∃ x, cl.any (hasX ⟨k, k, true, true⟩) = x := ⟨_, rfl⟩
                obtain ⟨t2, ht2⟩ : ∃ x, cl.any (hasX ⟨k, k, false, false⟩) = x := ⟨_, rfl⟩
                obtain ⟨fk, hfk⟩ : ∃ x, fixAt m k = x := ⟨_, rfl⟩
                rw [ht1, ht2, hfk] at h3
                rw [hfk] at HP0
                have hc1 := fun (W : World) (hW : Below w6.heap.size w6 W) => covered_any cl m.opts.length ⟨k, k, true, true⟩ (.slice Ac cl.length capc) W (HV6.out.up hW) (fun y hy => allM_len (HCM.out y hy)) HN2.out (by have := HF3.out; omega) hkN hkN
                have hc2 := fun (W : World) (hW : Below w6.heap.size w6 W) => covered_any cl m.opts.length ⟨k, k, false, false⟩ (.slice Ac cl.length capc) W (HV6.out.up hW) (fun y hy => allM_len (HCM.out y hy)) HN2.out (by have := HF3.out; omega) hkN hkN
                rw [ht1] at hc1
                rw [ht2] at hc2
                have HC1 := hide hc1
                have HC2 := hide hc2
                clear p0 hc1 hc2 ht1 ht2 hfk
                go_upto_region 40 with (go_at_call 58; refine (HC1.out _ hB.out).mono ?_; rintro e w7 ⟨rfl, hB7⟩; have HB7 : Hid (Below w6.heap.size w6 w7) := Below.to hB.out hB7 (Nat.le_refl _); clear hB7)
                go_upto_region 41 with (go_at_call 58; refine (HC2.out _ HB7.out).mono ?_; rintro e w8 ⟨rfl, hB8⟩; have HB8 : Hid (Below w6.heap.size w6 w8) := Below.to HB7.out hB8 (Nat.le_refl _); have e0 := (HB8.out.cell (p := ⟨bf, offf + k, none⟩) hbf).trans HP0.out; have lf : bf < w8.heap.size := Nat.lt_of_lt_of_le hbf HB8.out.size; clear hB8)
                rcases h3 with ⟨rfl, rfl, rfl⟩ | ⟨rfl, rfl, rfl⟩ | ⟨rfl, rfl, rfl⟩
                all_goals
                  go_wp2_with fail
                  go_roundw
                  case rel => exact ⟨k + 1, by omega, by go_num, HB8.out⟩
                  case measure => simp [intOf]; omega
              · obtain rfl : k = fl.length := by omega
                have gi0 : ¬ (fl.length : Int) < (fl.length : Int) := by omega
                go_wp2_with (go_at_call 20; refine (works_any _).mono ?_; rintro e w99 ⟨rfl, hB99⟩)
                go_ret
                exact ⟨rfl, Below.to (Below.to HB6.out hB.out (Nat.le_refl _)) hB99 (Nat.le_refl _)⟩
end Go.Proofs.Ytohofcmikfkilaa

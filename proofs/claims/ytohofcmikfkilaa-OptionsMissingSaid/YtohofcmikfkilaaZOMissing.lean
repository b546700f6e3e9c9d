/- Fixed, Missing and Cover answer as the elder program does: for every model; no condition. -/
import Derived.Test.YtohofcmikfkilaaRows
import Derived.Test.YtohofcmikfkilaaTMF
import Derived.Test.YtohofcmikfkilaaTMH
import Derived.Test.YtohofcmikfkilaaTMK
import Derived.Test.YtohofcmikfkilaaTMR
import Derived.Test.YtohofcmikfkilaaTMS
import Derived.Deep.RegionHeld3
import Derived.Deep.DrawnRows
namespace Go.Proofs.Ytohofcmikfkilaa
open Go.Joins Go.ChangeShapes Go.WideShapes Go.ChangeAt Go.RowKit Go.Deep
set_option linter.unusedVariables false
set_option linter.unusedSimpArgs false
set_option maxRecDepth 100000 in
set_option maxHeartbeats 8000000 in
theorem optionsMissing_large (m : Mo) (ov rv : Value) (w : World) (hs : SizedM m) (h : MoAt w w.heap.size ov rv m) (hlg : largeB m = true) :
    Calls Try.prog 15 #[.agg #[ov, rv]] w fun e w' => e = .returned (.bool true) ∧ Below w.heap.size w w' := by
  obtain ⟨A, cap, hov⟩ := Sl.form h.o
  obtain ⟨Ar, capr, hrv⟩ := h.r.form
  have H := hide h
  have HLG := hide hlg
  subst hov hrv
  clear h hs hlg
  go_enter Try.func15, Try.ntmps15
  go_upto_region 1 with (fail)
  generalize hw0 : World.alloc _ _ = w0
  obtain ⟨hb0, hB0, hs0⟩ := alloc1 hw0
  clear hw0
  have HX0 := hide hb0
  have HB0 := hide hB0
  have c0 := cellOf hb0 0
  have c1 := cellOf hb0 1
  clear hb0 hB0 hs0
  go_wp2_with (first | (go_at_call 20; refine (works_any _).mono ?_; rintro e w99 ⟨rfl, hB99⟩) | (go_at_call 19; refine (Large_any m _ _ _ (H.out.up HB0.out)).mono ?_; rw [HLG.out]; rintro e w1 ⟨rfl, hB1⟩; have HB1 : Hid (Below w.heap.size w w1) := Below.to HB0.out hB1 (Nat.le_refl _); have HX1 := hide (box_to HX0.out hB1); (try clear c0 c1); have c0 := cellOf HX1.out 0; have c1 := cellOf HX1.out 1; clear hB1))
  go_ret
  exact ⟨rfl, Below.to HB1.out hB99 (Nat.le_refl _)⟩
theorem fixL_len {m : Mo} (hN : m.err = 0 → m.opts.length ≤ 12) : (fixL m).length ≤ 12 := by
  unfold fixL
  split
  · rename_i h
    have he : m.err = 0 := by
      by_cases he : m.err = 0
      · exact he
      · rw [fix_err he] at h; exact absurd h he
    simp
    exact hN he
  · simp
theorem misL_len {m : Mo} (hN : m.err = 0 → m.opts.length ≤ 12) : (misL m).length ≤ 576 := by
  unfold misL
  split
  · rename_i h
    exact Nat.le_trans (List.length_filter_le _ _) (pairs_len (hN h))
  · simp
theorem cov_rows {m : Mo} (hN : m.err = 0 → m.opts.length ≤ 12) : ∀ y ∈ covL m, y.length ≤ 1000 := by
  intro y hy
  have h1 := allM_len (cov_in y hy)
  by_cases he : m.err = 0
  · have := hN he; omega
  · rw [cov_err he] at hy; simp at hy
set_option maxRecDepth 100000 in
set_option maxHeartbeats 8000000 in
theorem optionsMissing_ok (m : Mo) (ov rv : Value) (w : World) (hs : SizedM m) (h : MoAt w w.heap.size ov rv m) (hlg : largeB m = false) :
    Calls Try.prog 15 #[.agg #[ov, rv]] w fun e w' => e = .returned (.bool true) ∧ Below w.heap.size w w' := by
  obtain ⟨A, cap, hov⟩ := Sl.form h.o
  obtain ⟨Ar, capr, hrv⟩ := h.r.form
  have H := hide h
  have HS := hide hs
  have HLG := hide hlg
  subst hov hrv
  have hN : m.err = 0 → m.opts.length ≤ 12 := fun he => by have := (large_small hlg he).1; omega
  have hf1 := fixL_len hN
  have hf2 := misL_len hN
  have hf3 := cov_len hN
  have hf4 := cov_rows hN
  obtain ⟨fl, hfl⟩ : ∃ x, fixL m = x := ⟨_, rfl⟩
  obtain ⟨fe, hfe⟩ : ∃ x, fixE m = x := ⟨_, rfl⟩
  obtain ⟨ml, hml⟩ : ∃ x, misL m = x := ⟨_, rfl⟩
  obtain ⟨cl, hcl⟩ : ∃ x, covL m = x := ⟨_, rfl⟩
  obtain ⟨er, her⟩ : ∃ x, m.err = x := ⟨_, rfl⟩
  rw [hfl] at hf1
  rw [hml] at hf2
  rw [hcl] at hf3 hf4
  have HN := hide hN
  have HFX := hide (And.intro hfl hfe)
  have HML := hide (And.intro hml her)
  have HCL := hide (And.intro hcl her)
  have HF1 := hide hf1
  have HF2 := hide hf2
  have HF3 := hide hf3
  have HF4 := hide hf4
  have n1 : (fe != fe) = false := by simp
  have n2 : (er != er) = false := by simp
  have n3 : (er == er) = true := by simp
  have n4 : ((ml.length : Int) != (ml.length : Int)) = false := by simp
  clear h hs hlg hN hf1 hf2 hf3 hf4 hfl hfe hml hcl her
  go_enter Try.func15, Try.ntmps15
  go_upto_region 1 with (fail)
  generalize hw0 : World.alloc _ _ = w0
  obtain ⟨hb0, hB0, hs0⟩ := alloc1 hw0
  clear hw0
  have HX0 := hide hb0
  have HB0 := hide hB0
  have c0 := cellOf hb0 0
  have c1 := cellOf hb0 1
  clear hb0 hB0 hs0
  go_upto_region 3 with (go_at_call 19; refine (Large_any m _ _ _ (H.out.up HB0.out)).mono ?_; rw [HLG.out]; rintro e w1 ⟨rfl, hB1⟩; have HB1 : Hid (Below w.heap.size w w1) := Below.to HB0.out hB1 (Nat.le_refl _); have HX1 := hide (box_to HX0.out hB1); (try clear c0 c1); have c0 := cellOf HX1.out 0; have c1 := cellOf HX1.out 1; clear hB1)
  go_upto_region 4 with (go_at_call 52; refine (Fixed_any m _ _ _ HS.out (H.out.up HB1.out) HN.out).mono ?_; unfold FixP; rw [HFX.out.1, HFX.out.2]; rintro e w2 ⟨f2, rfl, hf2, hB2⟩; have HB2 : Hid (Below w.heap.size w w2) := Below.to HB1.out hB2 (Nat.le_refl _); have HX2 := hide (box_to HX1.out hB2); (try clear c0 c1); have c0 := cellOf HX2.out 0; have c1 := cellOf HX2.out 1; have HF2v := hide hf2; clear hB2 hf2)
  go_upto_region 5 with (go_at_call 53; refine (rFixed_any m _ _ _ HS.out (H.out.up HB2.out) HN.out).mono ?_; unfold FixP; rw [HFX.out.1, HFX.out.2]; rintro e w3 ⟨f3, rfl, hf3, hB3⟩; have HB3 : Hid (Below w.heap.size w w3) := Below.to HB2.out hB3 (Nat.le_refl _); have HX3 := hide (box_to HX2.out hB3); (try clear c0 c1); have c0 := cellOf HX3.out 0; have c1 := cellOf HX3.out 1; have HF3v := hide hf3; have HF2w : Hid (Ints w3 w3.heap.size f2 fl) := Sl.up HF2v.out hB3; clear hB3 hf3)
  go_upto_region 7 with (go_at_call 30; refine (sameInts_any fl fl _ _ _ HF2w.out HF3v.out (by have := HF1.out; omega) (by have := HF1.out; unfold maxLen; omega)).mono ?_; rw [decide_eq_true rfl]; rintro e w4 ⟨rfl, hB4⟩; have HB4 : Hid (Below w.heap.size w w4) := Below.to HB3.out hB4 (Nat.le_refl _); have HX4 := hide (box_to HX3.out hB4); (try clear c0 c1); have c0 := cellOf HX4.out 0; have c1 := cellOf HX4.out 1; clear hB4)
  go_upto_region 8 with (go_at_call 51; refine (Missing_any m _ _ _ HS.out (H.out.up HB4.out) HN.out).mono ?_; unfold MisP; rw [HML.out.1, HML.out.2]; rintro e w5 ⟨f5, rfl, hf5, hB5⟩; have HB5 : Hid (Below w.heap.size w w5) := Below.to HB4.out hB5 (Nat.le_refl _); have HX5 := hide (box_to HX4.out hB5); (try clear c0 c1); have c0 := cellOf HX5.out 0; have c1 := cellOf HX5.out 1; obtain ⟨A5, cap5, hA5⟩ := Sl.form hf5; subst hA5; have HM5 := hide hf5; clear hB5 hf5)
  go_upto_region 9 with (go_at_call 54; refine (rMissing_any m _ _ _ HS.out (H.out.up HB5.out) HN.out).mono ?_; unfold MisP; rw [HML.out.1, HML.out.2]; rintro e w6 ⟨f6, rfl, hf6, hB6⟩; have HB6 : Hid (Below w.heap.size w w6) := Below.to HB5.out hB6 (Nat.le_refl _); have HX6 := hide (box_to HX5.out hB6); (try clear c0 c1); have c0 := cellOf HX6.out 0; have c1 := cellOf HX6.out 1; obtain ⟨A6, cap6, hA6⟩ := Sl.form hf6; subst hA6; have HM6 := hide hf6; have HM5w : Hid (Lks w6 w6.heap.size (.slice A5 ml.length cap5) ml) := HM5.out.up hB6; clear hB6 hf6)
  go_wp2_with fail
  go_loopw [9] (fun i wr => ∃ k : Nat, k ≤ ml.length ∧ i = .int .i64 k ∧ Hid (Below w6.heap.size w6 wr)) (fun i _ => ml.length - (intOf i).toNat)
  case atStart => exact ⟨0, Nat.zero_le _, rfl, Below.refl _ _⟩
  case round =>
    obtain ⟨k, hk, rfl, hB⟩ := hrel
    have hk6 : k ≤ 576 := by have := HF2.out; omega
    by_cases hlt : k < ml.length
    · obtain ⟨b5, o5, rfl, hb5, p0, p1, p2, p3⟩ := lksAt HM5w.out hlt
      obtain ⟨b6, o6, rfl, hb6, q0, q1, q2, q3⟩ := lksAt HM6.out hlt
      obtain ⟨x, hx⟩ : ∃ x, ml.getD k Lk.z = x := ⟨_, rfl⟩
      rw [hx] at p0 p1 p2 p3 q0 q1 q2 q3
      obtain ⟨xa, xb, xwa, xwb⟩ := x
      dsimp only at p0 p1 p2 p3 q0 q1 q2 q3
      have r0 := (hB.out.cell (p := ⟨b5, o5 + k * 4, none⟩) hb5).trans p0
      have r1 := (hB.out.cell (p := ⟨b5, o5 + k * 4 + 1, none⟩) hb5).trans p1
      have r2 := (hB.out.cell (p := ⟨b5, o5 + k * 4 + 2, none⟩) hb5).trans p2
      have r3 := (hB.out.cell (p := ⟨b5, o5 + k * 4 + 3, none⟩) hb5).trans p3
      have s0 := (hB.out.cell (p := ⟨b6, o6 + k * 4, none⟩) hb6).trans q0
      have s1 := (hB.out.cell (p := ⟨b6, o6 + k * 4 + 1, none⟩) hb6).trans q1
      have s2 := (hB.out.cell (p := ⟨b6, o6 + k * 4 + 2, none⟩) hb6).trans q2
      have s3 := (hB.out.cell (p := ⟨b6, o6 + k * 4 + 3, none⟩) hb6).trans q3
      have l5 : b5 < wr.heap.size := Nat.lt_of_lt_of_le hb5 hB.out.size
      have l6 : b6 < wr.heap.size := Nat.lt_of_lt_of_le hb6 hB.out.size
      have gi0 : (k : Int) < (ml.length : Int) := by omega
      have gi1 : (0 : Int) ≤ (k : Int) := by omega
      have HBB := hide hB.out
      clear p0 p1 p2 p3 q0 q1 q2 q3 hx hB
      go_wp2_with fail
      refine wp_region_held_drew (S := (fun w' => Below wr.heap.size wr w')) (by kernel_rfl) ?_ (fun hHeld => ?_)
      · try dsimp only
        exact (by repeat (first | exact Below.refl _ _ | assumption | refine Below.drew ?_ | refine Below.drewN ?_ _ | refine Below.allocT ?_ (Nat.le_refl _) _ | refine Below.setCell ?_ (by simp <;> omega) _ | refine Below.to ?_ (by assumption) (Nat.le_refl _)))
      refine wpAnyH_take (i := 0) (v := ?v1_0) rfl (by kernel_rfl) (by kernel_rfl) (by kernel_rfl) (fun _ _ _ h => h) (Or.inl ⟨by rfl, ?y1_0⟩) (by assumption) ?r1_0
      case' y1_0 => (intro w hSw; (try dsimp only at hSw); (try have hlS := HLK.out _ hSw); obtain ⟨hcS, hfS⟩ := bcell hSw; clear hSw; go_simp; try with_reducible rfl)
      try simp only [Act.put, List.getElem_toArray, List.getElem_cons_succ, List.getElem_cons_zero, List.setIfInBounds_toArray, List.set_cons_zero, List.set_cons_succ]
      refine wpAnyH_take (i := 1) (v := ?v1_1) rfl (by kernel_rfl) (by kernel_rfl) (by kernel_rfl) (fun _ _ _ h => h) (Or.inl ⟨by rfl, ?y1_1⟩) (by assumption) ?r1_1
      case' y1_1 => (intro w hSw; (try dsimp only at hSw); (try have hlS := HLK.out _ hSw); obtain ⟨hcS, hfS⟩ := bcell hSw; clear hSw; go_simp; try with_reducible rfl)
      try simp only [Act.put, List.getElem_toArray, List.getElem_cons_succ, List.getElem_cons_zero, List.setIfInBounds_toArray, List.set_cons_zero, List.set_cons_succ]
      refine wpAnyH_take (i := 2) (v := ?v1_2) rfl (by kernel_rfl) (by kernel_rfl) (by kernel_rfl) (fun _ _ _ h => h) (Or.inl ⟨by rfl, ?y1_2⟩) (by assumption) ?r1_2
      case' y1_2 => (intro w hSw; (try dsimp only at hSw); (try have hlS := HLK.out _ hSw); obtain ⟨hcS, hfS⟩ := bcell hSw; clear hSw; go_simp; try with_reducible rfl)
      try simp only [Act.put, List.getElem_toArray, List.getElem_cons_succ, List.getElem_cons_zero, List.setIfInBounds_toArray, List.set_cons_zero, List.set_cons_succ]
      refine wpAnyH_take (i := 3) (v := ?v1_3) rfl (by kernel_rfl) (by kernel_rfl) (by kernel_rfl) (fun _ _ _ h => h) (Or.inl ⟨by rfl, ?y1_3⟩) (by assumption) ?r1_3
      case' y1_3 => (intro w hSw; (try dsimp only at hSw); (try have hlS := HLK.out _ hSw); obtain ⟨hcS, hfS⟩ := bcell hSw; clear hSw; go_simp; try with_reducible rfl)
      try simp only [Act.put, List.getElem_toArray, List.getElem_cons_succ, List.getElem_cons_zero, List.setIfInBounds_toArray, List.set_cons_zero, List.set_cons_succ]
      refine wpAnyH_take (i := 4) (v := ?v1_4) rfl (by kernel_rfl) (by kernel_rfl) (by kernel_rfl) (fun _ _ _ h => h) (Or.inl ⟨by rfl, ?y1_4⟩) (by assumption) ?r1_4
      case' y1_4 => (intro w hSw; (try dsimp only at hSw); (try have hlS := HLK.out _ hSw); obtain ⟨hcS, hfS⟩ := bcell hSw; clear hSw; go_simp; try with_reducible rfl)
      try simp only [Act.put, List.getElem_toArray, List.getElem_cons_succ, List.getElem_cons_zero, List.setIfInBounds_toArray, List.set_cons_zero, List.set_cons_succ]
      refine wpAnyH_take (i := 5) (v := ?v1_5) rfl (by kernel_rfl) (by kernel_rfl) (by kernel_rfl) (fun _ _ _ h => h) (Or.inl ⟨by rfl, ?y1_5⟩) (by assumption) ?r1_5
      case' y1_5 => (intro w hSw; (try dsimp only at hSw); (try have hlS := HLK.out _ hSw); obtain ⟨hcS, hfS⟩ := bcell hSw; clear hSw; go_simp; try with_reducible rfl)
      try simp only [Act.put, List.getElem_toArray, List.getElem_cons_succ, List.getElem_cons_zero, List.setIfInBounds_toArray, List.set_cons_zero, List.set_cons_succ]
      refine wpAnyH_take (i := 6) (v := ?v1_6) rfl (by kernel_rfl) (by kernel_rfl) (by kernel_rfl) (fun _ _ _ h => h) (Or.inl ⟨by rfl, ?y1_6⟩) (by assumption) ?r1_6
      case' y1_6 => (intro w hSw; (try dsimp only at hSw); (try have hlS := HLK.out _ hSw); obtain ⟨hcS, hfS⟩ := bcell hSw; clear hSw; go_simp; try with_reducible rfl)
      try simp only [Act.put, List.getElem_toArray, List.getElem_cons_succ, List.getElem_cons_zero, List.setIfInBounds_toArray, List.set_cons_zero, List.set_cons_succ]
      refine wpAnyH_take (i := 7) (v := ?v1_7) rfl (by kernel_rfl) (by kernel_rfl) (by kernel_rfl) (fun _ _ _ h => h) (Or.inl ⟨by rfl, ?y1_7⟩) (by assumption) ?r1_7
      case' y1_7 => (intro w hSw; (try dsimp only at hSw); (try have hlS := HLK.out _ hSw); obtain ⟨hcS, hfS⟩ := bcell hSw; clear hSw; go_simp; try with_reducible rfl)
      try simp only [Act.put, List.getElem_toArray, List.getElem_cons_succ, List.getElem_cons_zero, List.setIfInBounds_toArray, List.set_cons_zero, List.set_cons_succ]
      refine wpAnyH_take (i := 8) (v := ?v1_8) rfl (by kernel_rfl) (by kernel_rfl) (by kernel_rfl) (fun _ _ _ h => h) (Or.inl ⟨by rfl, ?y1_8⟩) (by assumption) ?r1_8
      case' y1_8 => (intro w hSw; (try dsimp only at hSw); (try have hlS := HLK.out _ hSw); obtain ⟨hcS, hfS⟩ := bcell hSw; clear hSw; go_simp; try with_reducible rfl)
      try simp only [Act.put, List.getElem_toArray, List.getElem_cons_succ, List.getElem_cons_zero, List.setIfInBounds_toArray, List.set_cons_zero, List.set_cons_succ]
      refine wpAnyH_done (by kernel_rfl) ?_ _
      go_wp2_with fail
      go_roundw
      case rel => exact ⟨k + 1, by omega, by go_num, Below.to HBB.out hHeld (Nat.le_refl _)⟩
      case measure => simp [intOf]; omega
    · obtain rfl : k = ml.length := by omega
      have gi0 : ¬ (ml.length : Int) < (ml.length : Int) := by omega
      have hb0 := box_to HX6.out hB.out
      have HB7 : Hid (Below w.heap.size w wr) := Below.to HB6.out hB.out (Nat.le_refl _)
      have HX7 := hide hb0
      have d0 := cellOf hb0 0
      have d1 := cellOf hb0 1
      have l0 := box_lt hb0
      clear hb0 hB
      go_upto_region 17 with (go_at_call 55; refine (Cover_any m _ _ _ HS.out (H.out.up HB7.out) HN.out).mono ?_; unfold ListP; rw [HCL.out.1, HCL.out.2]; rintro e w8 ⟨f8, rfl, hf8, hB8⟩; have HB8 : Hid (Below w.heap.size w w8) := Below.to HB7.out hB8 (Nat.le_refl _); have HX8 := hide (box_to HX7.out hB8); clear d0 d1 l0; have d0 := cellOf HX8.out 0; have d1 := cellOf HX8.out 1; have HC8 := hide hf8; clear hB8 hf8)
      go_upto_region 18 with (go_at_call 56; refine (rCover_any m _ _ _ HS.out (H.out.up HB8.out) HN.out).mono ?_; unfold ListP; rw [HCL.out.1, HCL.out.2]; rintro e w9 ⟨f9, rfl, hf9, hB9⟩; have HB9 : Hid (Below w.heap.size w w9) := Below.to HB8.out hB9 (Nat.le_refl _); have HC9 := hide hf9; have HC8w : Hid (Vars w9 w9.heap.size f8 cl) := HC8.out.up hB9; clear hB9 hf9 d0 d1)
      go_wp2_with (first | (go_at_call 40; refine (sameVariants_any m.opts.length cl cl _ _ _ HC8w.out HC9.out HF4.out HF4.out (by have := HF3.out; omega) (by have := HF3.out; omega)).mono ?_; rw [decide_eq_true rfl]; rintro e w10 ⟨rfl, hB10⟩; have HB10 : Hid (Below w.heap.size w w10) := Below.to HB9.out hB10 (Nat.le_refl _); clear hB10) | (go_at_call 20; refine (works_any _).mono ?_; rintro e w99 ⟨rfl, hB99⟩))
      go_ret
      exact ⟨rfl, Below.to HB10.out hB99 (Nat.le_refl _)⟩
theorem optionsMissing_walk (m : Mo) (ov rv : Value) (w : World) (hs : SizedM m) (h : MoAt w w.heap.size ov rv m) :
    Calls Try.prog 15 #[.agg #[ov, rv]] w fun e w' => e = .returned (.bool true) ∧ Below w.heap.size w w' := by
  cases hlg : largeB m with
  | true => exact optionsMissing_large m ov rv w hs h hlg
  | false => exact optionsMissing_ok m ov rv w hs h hlg

theorem own_OptionsMissing : ownKnob Try.prog.godebug = none := by kernel_rfl
theorem laid_OptionsMissing : laidOutB Try.prog = true := by kernel_rfl
theorem par_OptionsMissing : ∀ t ∈ Try.f15.params.toList, Try.prog.readableRec t = true ∧ t < Try.prog.types.size := by
  rw [Try.params15]
  intro t ht
  simp only [List.mem_cons, List.not_mem_nil, or_false] at ht
  rcases ht with rfl <;> exact ⟨by kernel_rfl, of_decide_eq_true (by kernel_rfl)⟩
set_option maxRecDepth 100000 in
theorem optionsMissing_lifted (os : Os) (started : os.Started) (H : Type) (enc : TypeId × Value → H) :
    ReturnsInHanded {} Try.checked os 15 .any (Rows.optionsMissingSpec.pre6 enc Try.prog Try.f15 Rows.optionsMissingRow.domain false) (Rows.optionsMissingSpec.post enc Try.prog Try.f15 false true false false) := by
  refine returnsInHanded_of_change (C := Try.checked) own_OptionsMissing started (by kernel_rfl) Try.func15
    (ChangeSpec.witness6 (enc := enc) (C := Try.checked) false ⟨#[], #[.agg #[.slice none 0 0, .slice none 0 0]], []⟩ 8 (by kernel_rfl) (by kernel_rfl) (by kernel_rfl) (by kernel_rfl)) ?_
  intro W base args ds gs before hval0 hW hcnd _
  have hval : ∀ (j : Nat) t v, Try.f15.params[j]? = some t → args[j]? = some v → Value.okWide Try.prog W .any base t v := hval0
  have hW' := hW
  obtain ⟨p, q, hA0, hV, rfl, hfz, hnd⟩ := hW
  have hA : DataW.TrodAll enc Try.prog W 0 (fun _ => true) true Try.f15.params.toList args.toList ds p := hA0
  have hAll := hA
  have hltp : ∀ x ∈ p, x.block < W.heap.size := fun x hx => hW'.lt x (List.mem_append_left _ hx)
  rw [Try.params15] at hA hval
  obtain ⟨v0, d0, rfl, rfl, h0⟩ := trodAll_one hA
  obtain ⟨rfl, rfl⟩ := trodVars_none hV
  obtain ⟨ov, rv, m, rfl, hmo, hsz⟩ := open_model (hval 0 25 v0 rfl rfl) h0
  refine (optionsMissing_walk m ov rv W hsz hmo).mono fun e W2 ⟨he, hb⟩ => ?_
  subst he
  exact ⟨_, rfl, post_of_below (pv := []) hW' (fun _ _ _ => trodAll_mk1 (shut_bool Try.underlying4 _)) (fun sp hsp => trodAll_stays laid_OptionsMissing hb sp _ _ _ _ par_OptionsMissing hAll hltp (fun x hx => hsp x (List.mem_append_left _ hx))) (fun _ _ => rfl) rfl hb
    (ok_one (by kernel_rfl) rfl (okWide_bool_mk Try.underlying4 _))⟩
theorem optionsMissing_holds : Rows.OptionsMissingSaid :=
  OpenClaim.holds_of_wide 15 Try.f15 rfl rfl rfl rfl rfl rfl rfl ⟨rfl, rfl, rfl, rfl, rfl⟩ rfl rfl rfl rfl rfl (by kernel_rfl) Try.func15 (by kernel_rfl)
    (of_decide_eq_true (by kernel_rfl)) (by unfold Func.isWrapper; first | (rw [if_pos (by decide +kernel)]; kernel_rfl) | (rw [if_neg (by decide +kernel)]; exact ⟨rfl, rfl⟩))
    (fun os started H enc _ => optionsMissing_lifted os started H enc)
#print axioms optionsMissing_holds

end Go.Proofs.Ytohofcmikfkilaa

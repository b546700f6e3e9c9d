/- Pick returns what the document specifies, and what it picks makes a feeder without a weakness: for every table and need; no condition. -/
import Derived.Test.YtejjjijaojkohaaRows
import Derived.Test.YtejjjijaojkohaaW43
import Derived.Test.YtejjjijaojkohaaW42
import Derived.Test.YtejjjijaojkohaaW37
import Derived.Deep.RegionHeld3
import Derived.Deep.DrawnRows
namespace Go.Proofs.Ytejjjijaojkohaa
open Go.Joins Go.ChangeShapes Go.WideShapes Go.ChangeAt Go.RowKit Go.Deep
set_option linter.unusedVariables false
set_option linter.unusedSimpArgs false
attribute [local go_sem ↓] Go.wp_at_zero Go.wp_at_succ

set_option maxRecDepth 100000 in
set_option maxHeartbeats 4000000 in
theorem wiresPicks_walk (gs : List Ga) (fs : List Fu) (n : Ne) (gv fv v : Value) (cs : List Cu) (w : World) (hm : cs.length ≤ maxLen) (hgm : gs.length ≤ maxLen) (hfm : fs.length ≤ maxLen) (hG : Gas w w.heap.size gv gs) (hF : Fus w w.heap.size fv fs) (h : Cyc w w.heap.size v cs) :
    Calls Try.prog 12 #[gv, fv, .agg #[v, .int .i64 n.len, .int .i64 n.drop, .int .i64 n.amb]] w fun e w' => e = .returned (.bool true) ∧ Below w.heap.size w w' := by
  obtain ⟨i0, hi0, hz0, hz1, hz2⟩ := info_parts infoGa
  obtain ⟨i1, hi1, hy0, hy1, hy2⟩ := info_parts infoFu
  have H := hide h
  obtain ⟨A0, cap0, rfl⟩ := h.form
  have HGS := hide hG
  obtain ⟨A1, cap1, rfl⟩ := Sl.form hG
  have HFS := hide hF
  obtain ⟨A2, cap2, rfl⟩ := Sl.form hF
  clear h hG hF
  have hgm2 : gs.length ≤ 9223372036854775807 := hgm
  have hfm2 : fs.length ≤ 9223372036854775807 := hfm
  by_cases hn : 20 < cs.length
  · have hd : decide (20 < cs.length) = true := by simpa using hn
    go_enter Try.func12, Try.ntmps12
    go_wp2_with (first
      | (go_at_call 18; refine (far_any _ _ _ _ _ rfl hm).mono ?_; rw [hd]; rintro e w1 ⟨rfl, rfl⟩)
      | (go_at_call 17; refine (works_any _).mono ?_; rintro e w3 ⟨rfl, hB3⟩))
    go_ret
    exact ⟨rfl, (by repeat (first | exact Below.refl _ _ | assumption | refine Below.drew ?_ | refine Below.drewN ?_ _ | refine Below.allocT ?_ (Nat.le_refl _) _ | refine Below.setCell ?_ (by simp <;> omega) _ | refine Below.to ?_ (by assumption) (Nat.le_refl _)))⟩
  have hd : decide (20 < cs.length) = false := by simpa using hn
  have hn' : cs.length ≤ 20 := by omega
  by_cases hgn : 30 < gs.length
  · have hgi : (30 : Int) < (gs.length : Int) := by omega
    go_enter Try.func12, Try.ntmps12
    go_wp2_with (first
      | (go_at_call 18; refine (far_any _ _ _ _ _ rfl hm).mono ?_; rw [hd]; rintro e w1 ⟨rfl, rfl⟩)
      | (go_at_call 17; refine (works_any _).mono ?_; rintro e w3 ⟨rfl, hB3⟩))
    go_ret
    exact ⟨rfl, (by repeat (first | exact Below.refl _ _ | assumption | refine Below.drew ?_ | refine Below.drewN ?_ _ | refine Below.allocT ?_ (Nat.le_refl _) _ | refine Below.setCell ?_ (by simp <;> omega) _ | refine Below.to ?_ (by assumption) (Nat.le_refl _)))⟩
  have hgi : ¬ (30 : Int) < (gs.length : Int) := by omega
  have hg30 : gs.length ≤ 30 := by omega
  by_cases hfn : 30 < fs.length
  · have hfi : (30 : Int) < (fs.length : Int) := by omega
    go_enter Try.func12, Try.ntmps12
    go_wp2_with (first
      | (go_at_call 18; refine (far_any _ _ _ _ _ rfl hm).mono ?_; rw [hd]; rintro e w1 ⟨rfl, rfl⟩)
      | (go_at_call 17; refine (works_any _).mono ?_; rintro e w3 ⟨rfl, hB3⟩))
    go_ret
    exact ⟨rfl, (by repeat (first | exact Below.refl _ _ | assumption | refine Below.drew ?_ | refine Below.drewN ?_ _ | refine Below.allocT ?_ (Nat.le_refl _) _ | refine Below.setCell ?_ (by simp <;> omega) _ | refine Below.to ?_ (by assumption) (Nat.le_refl _)))⟩
  have hfi : ¬ (30 : Int) < (fs.length : Int) := by omega
  have hf30 : fs.length ≤ 30 := by omega
  obtain ⟨pv, hpv⟩ : ∃ x, pickV gs fs n cs = x := ⟨_, rfl⟩
  obtain ⟨pw, hpw⟩ : ∃ x, pickW gs fs n cs = x := ⟨_, rfl⟩
  obtain ⟨pe, hpe⟩ : ∃ x, pickErr gs fs n cs = x := ⟨_, rfl⟩
  have HPV := hide hpv
  have HPW := hide hpw
  have HPE := hide hpe
  clear hpv hpw hpe
  go_enter Try.func12, Try.ntmps12
  go_wp2_with (go_at_call 18; refine (far_any _ _ _ _ _ rfl hm).mono ?_; rw [hd]; rintro e w1 ⟨rfl, rfl⟩)
  generalize hw0 : World.alloc _ _ = w0
  obtain ⟨hb0, hB0, hs0⟩ := alloc1 hw0
  clear hw0
  have HN0 : Hid (NeedAt w0 w.heap.size (.slice A0 cs.length cap0) n) := hb0
  have HB0 := hide hB0
  have HC0 : Hid (Cyc w0 w0.heap.size (.slice A0 cs.length cap0) cs) := (H.out.below hB0).more hB0.size
  have k0 := cellOf hb0 0
  have k1 := cellOf hb0 1
  have k2 := cellOf hb0 2
  have k3 := cellOf hb0 3
  have hl0 : w.heap.size < w0.heap.size := by omega
  clear hb0 hs0 hB0 hgn hfn hn
  go_cut [7, 8, 9] from 30 to 45 (fun a b c wc => a = .int .i64 pv ∧ b = .int .i64 pw ∧ c = .int .i64 pe ∧ Hid (Below w0.heap.size w0 wc))
  case first =>
    refine wp_region_held_drew (S := (fun w' => Below w0.heap.size w0 w')) (by kernel_rfl) ?_ (fun hHeld => ?_)
    · try dsimp only
      exact (by repeat (first | exact Below.refl _ _ | assumption | refine Below.drew ?_ | refine Below.drewN ?_ _ | refine Below.allocT ?_ (Nat.le_refl _) _ | refine Below.setCell ?_ (by simp <;> omega) _ | refine Below.to ?_ (by assumption) (Nat.le_refl _)))
    refine wpAnyH_take (i := 1) (v := ?v1_1) rfl (by kernel_rfl) (by kernel_rfl) (by kernel_rfl) (fun _ _ _ h => h) (Or.inl ⟨by rfl, ?y1_1⟩) (by assumption) ?r1_1
    case' y1_1 => (intro w hSw; (try dsimp only at hSw); obtain ⟨hcS, hfS⟩ := bcell hSw; clear hSw; go_simp; try with_reducible rfl)
    try simp only [Act.put, List.getElem_toArray, List.getElem_cons_succ, List.getElem_cons_zero, List.setIfInBounds_toArray, List.set_cons_zero, List.set_cons_succ]
    refine wpAnyH_take (i := 4) (v := ?v1_4) rfl (by kernel_rfl) (by kernel_rfl) (by kernel_rfl) (fun _ _ _ h => h) (Or.inl ⟨by rfl, ?y1_4⟩) (by assumption) ?r1_4
    case' y1_4 => (intro w hSw; (try dsimp only at hSw); obtain ⟨hcS, hfS⟩ := bcell hSw; clear hSw; go_simp; try with_reducible rfl)
    try simp only [Act.put, List.getElem_toArray, List.getElem_cons_succ, List.getElem_cons_zero, List.setIfInBounds_toArray, List.set_cons_zero, List.set_cons_succ]
    refine wpAnyH_take (i := 6) (v := ?v1_6) rfl (by kernel_rfl) (by kernel_rfl) (by kernel_rfl) (fun _ _ _ h => h) (Or.inl ⟨by rfl, ?y1_6⟩) (by assumption) ?r1_6
    case' y1_6 => (intro w hSw; (try dsimp only at hSw); obtain ⟨hcS, hfS⟩ := bcell hSw; clear hSw; go_simp; try with_reducible rfl)
    try simp only [Act.put, List.getElem_toArray, List.getElem_cons_succ, List.getElem_cons_zero, List.setIfInBounds_toArray, List.set_cons_zero, List.set_cons_succ]
    refine wpAnyH_start [0, 2, 3, 5, 7, 8, 9, 10, 11, 12, 13, 14] (fun j => match j with | 0 => 31 | 2 => 33 | 3 => 34 | 5 => 36 | 7 => 38 | 8 => 39 | 9 => 30 | 10 => 40 | 11 => 41 | 12 => 42 | 13 => 7 | 14 => 8 | _ => 0) (pickR w0 gs fs n cs pv pw pe) 1 rfl (by kernel_rfl) (by kernel_rfl) (by decide) (by decide) (by kernel_rfl) hHeld ?hkeep ?hstep ?hend
    case hkeep => exact fun j _ v w w' hb h => pickR_keep j hb h
    case hstep =>
      intro j hj tv w5 hS hd
      have hsz0 : w0.heap.size ≤ w5.heap.size := hS.size
      simp only [List.mem_cons, List.not_mem_nil, or_false] at hj
      rcases hj with rfl | rfl | rfl | rfl | rfl | rfl | rfl | rfl | rfl | rfl | rfl | rfl
      · refine wpOp_step rfl (fun K hK => ?_)
        generalize hax : putAll _ _ tv _ = ax at hK ⊢
        simp only [putAll, Act.put, List.setIfInBounds_toArray, List.set_cons_zero, List.set_cons_succ] at hax
        rw [← hax]
        go_simp
        exact hK _ _ ⟨⟨_, by rw [← hax]; rfl, by simp; omega, _, rfl, World.ownsRow_made w5 #[] 0 hsz0 (by unfold maxLen; omega) rfl⟩, (by repeat (first | exact Below.refl _ _ | assumption | refine Below.drew ?_ | refine Below.drewN ?_ _ | refine Below.allocT ?_ (Nat.le_refl _) _ | refine Below.setCell ?_ (by simp <;> omega) _ | refine Below.to ?_ (by assumption) (Nat.le_refl _))), (by repeat (first | exact Below.refl _ _ | assumption | refine Below.drew ?_ | refine Below.drewN ?_ _ | refine Below.allocT ?_ (Nat.le_refl _) _ | refine Below.setCell ?_ (by simp <;> omega) _ | refine Below.to ?_ (by assumption) (Nat.le_refl _)))⟩
      · obtain ⟨_, g, hg, hown⟩ := hd 0 (by decide) (by kernel_rfl)
        rw [hg] at hown
        refine wpOp_step rfl (fun K hK => ?_)
        generalize hax : putAll _ _ tv _ = ax at hK ⊢
        simp only [putAll, Act.put, List.setIfInBounds_toArray, List.set_cons_zero, List.set_cons_succ] at hax
        have evs : ax.eval (.tmp 31) = .slice (some ⟨g, 0, none⟩) 0 0 := by rw [← hax]; exact hg
        have ex := congrArg (fun a => Act.eval a (.tmp 32)) hax.symm
        refine step_append_fresh _ (by rfl) (.tmp 31) (.tmp 32) _ (by rfl) w0.heap.size 23 i0 _ 5 40 Try.underlying57 hi0 hz0 hz1 hz2 (by rfl) (by omega) g evs hown w5.heap.size A1 gs.length cap1 (flat gs.length 5 (gaF gs)) ex (Sl.reads ((Sl.below HGS.out (Below.to HB0.out hS (Nat.le_refl _))).more (by have := HB0.out.size; omega)) (by omega)) (flat_one (by omega) (gaF_one gs)) (by unfold maxLen; omega) (by omega) hsz0 ?_
        intro v' w' hown' hB'
        exact hK _ _ ⟨⟨_, rfl, hown'⟩, hB', (by repeat (first | exact Below.refl _ _ | assumption | refine Below.drew ?_ | refine Below.drewN ?_ _ | refine Below.allocT ?_ (Nat.le_refl _) _ | refine Below.setCell ?_ (by simp <;> omega) _ | refine Below.to ?_ (by assumption) (Nat.le_refl _)))⟩
      · refine wpOp_step rfl (fun K hK => ?_)
        generalize hax : putAll _ _ tv _ = ax at hK ⊢
        simp only [putAll, Act.put, List.setIfInBounds_toArray, List.set_cons_zero, List.set_cons_succ] at hax
        rw [← hax]
        go_simp
        exact hK _ _ ⟨⟨_, by rw [← hax]; rfl, by simp; omega, _, rfl, World.ownsRow_made w5 #[] 0 hsz0 (by unfold maxLen; omega) rfl⟩, (by repeat (first | exact Below.refl _ _ | assumption | refine Below.drew ?_ | refine Below.drewN ?_ _ | refine Below.allocT ?_ (Nat.le_refl _) _ | refine Below.setCell ?_ (by simp <;> omega) _ | refine Below.to ?_ (by assumption) (Nat.le_refl _))), (by repeat (first | exact Below.refl _ _ | assumption | refine Below.drew ?_ | refine Below.drewN ?_ _ | refine Below.allocT ?_ (Nat.le_refl _) _ | refine Below.setCell ?_ (by simp <;> omega) _ | refine Below.to ?_ (by assumption) (Nat.le_refl _)))⟩
      · obtain ⟨_, g, hg, hown⟩ := hd 3 (by decide) (by kernel_rfl)
        rw [hg] at hown
        refine wpOp_step rfl (fun K hK => ?_)
        generalize hax : putAll _ _ tv _ = ax at hK ⊢
        simp only [putAll, Act.put, List.setIfInBounds_toArray, List.set_cons_zero, List.set_cons_succ] at hax
        have evs : ax.eval (.tmp 34) = .slice (some ⟨g, 0, none⟩) 0 0 := by rw [← hax]; exact hg
        have ex := congrArg (fun a => Act.eval a (.tmp 35)) hax.symm
        refine step_append_fresh _ (by rfl) (.tmp 34) (.tmp 35) _ (by rfl) w0.heap.size 30 i1 _ 2 16 Try.underlying60 hi1 hy0 hy1 hy2 (by rfl) (by omega) g evs hown w5.heap.size A2 fs.length cap2 (flat fs.length 2 (fuF fs)) ex (Sl.reads ((Sl.below HFS.out (Below.to HB0.out hS (Nat.le_refl _))).more (by have := HB0.out.size; omega)) (by omega)) (flat_one (by omega) (fuF_one fs)) (by unfold maxLen; omega) (by omega) hsz0 ?_
        intro v' w' hown' hB'
        exact hK _ _ ⟨⟨_, rfl, hown'⟩, hB', (by repeat (first | exact Below.refl _ _ | assumption | refine Below.drew ?_ | refine Below.drewN ?_ _ | refine Below.allocT ?_ (Nat.le_refl _) _ | refine Below.setCell ?_ (by simp <;> omega) _ | refine Below.to ?_ (by assumption) (Nat.le_refl _)))⟩
      · refine wpOp_step rfl (fun K hK => ?_)
        generalize hax : putAll _ _ tv _ = ax at hK ⊢
        simp only [putAll, Act.put, List.setIfInBounds_toArray, List.set_cons_zero, List.set_cons_succ] at hax
        subst hax
        go_simp
        (go_at_call 32; refine (copyNeed_any n _ cs w5 hn' ((HC0.out.below hS).more hsz0)).mono ?_; rintro e w6 ⟨v6, rfl, hc6, hB6⟩)
        (try dsimp only)
        exact hK _ _ ⟨⟨_, rfl, v6, rfl, hc6⟩, hB6, Below.to hS hB6 (Nat.le_refl _)⟩
      · have h2 := hd 2 (by decide) (by kernel_rfl)
        have h5 := hd 5 (by decide) (by kernel_rfl)
        obtain ⟨v7, e7, h7⟩ := hd 7 (by decide) (by kernel_rfl)
        have HD := hide (And.intro h2 (And.intro h5 h7))
        clear hd h2 h5 h7
        refine wpOp_step rfl (fun K hK => ?_)
        generalize hax : putAll _ _ tv _ = ax at hK ⊢
        simp only [putAll, Act.put, List.setIfInBounds_toArray, List.set_cons_zero, List.set_cons_succ, e7] at hax
        subst hax
        go_simp
        (go_at_call 43; refine (Pick_any gs fs n _ _ _ cs w5 hg30 hf30 hn' (Sl.of_owns HD.out.1 (fun i j hi hj => flat_get hi hj)) (Sl.of_owns HD.out.2.1 (fun i j hi hj => flat_get hi hj)) HD.out.2.2).mono ?_; rw [HPV.out, HPW.out, HPE.out]; rintro e w6 ⟨rfl, hB6⟩)
        (try dsimp only)
        exact hK _ _ ⟨⟨_, rfl, rfl⟩, hB6, Below.to hS hB6 (Nat.le_refl _)⟩
      · have e8 : tv 8 = .tuple #[.int .i64 pv, .int .i64 pw, .int .i64 pe] := hd 8 (by decide) (by kernel_rfl)
        refine wpOp_step rfl (fun K hK => ?_)
        generalize hax : putAll _ _ tv _ = ax at hK ⊢
        simp only [putAll, Act.put, List.setIfInBounds_toArray, List.set_cons_zero, List.set_cons_succ, e8] at hax
        rw [← hax]
        go_simp
        exact hK _ _ ⟨⟨_, by rw [← hax]; rfl, rfl⟩, (by repeat (first | exact Below.refl _ _ | assumption | refine Below.drew ?_ | refine Below.drewN ?_ _ | refine Below.allocT ?_ (Nat.le_refl _) _ | refine Below.setCell ?_ (by simp <;> omega) _ | refine Below.to ?_ (by assumption) (Nat.le_refl _))), (by repeat (first | exact Below.refl _ _ | assumption | refine Below.drew ?_ | refine Below.drewN ?_ _ | refine Below.allocT ?_ (Nat.le_refl _) _ | refine Below.setCell ?_ (by simp <;> omega) _ | refine Below.to ?_ (by assumption) (Nat.le_refl _)))⟩
      · have e9 : tv 9 = .tuple #[.int .i64 pv, .int .i64 pw, .int .i64 pe] := hd 9 (by decide) (by kernel_rfl)
        refine wpOp_step rfl (fun K hK => ?_)
        generalize hax : putAll _ _ tv _ = ax at hK ⊢
        simp only [putAll, Act.put, List.setIfInBounds_toArray, List.set_cons_zero, List.set_cons_succ, e9] at hax
        rw [← hax]
        go_simp
        exact hK _ _ ⟨⟨_, by rw [← hax]; rfl, rfl⟩, (by repeat (first | exact Below.refl _ _ | assumption | refine Below.drew ?_ | refine Below.drewN ?_ _ | refine Below.allocT ?_ (Nat.le_refl _) _ | refine Below.setCell ?_ (by simp <;> omega) _ | refine Below.to ?_ (by assumption) (Nat.le_refl _))), (by repeat (first | exact Below.refl _ _ | assumption | refine Below.drew ?_ | refine Below.drewN ?_ _ | refine Below.allocT ?_ (Nat.le_refl _) _ | refine Below.setCell ?_ (by simp <;> omega) _ | refine Below.to ?_ (by assumption) (Nat.le_refl _)))⟩
      · have e9 : tv 9 = .tuple #[.int .i64 pv, .int .i64 pw, .int .i64 pe] := hd 9 (by decide) (by kernel_rfl)
        refine wpOp_step rfl (fun K hK => ?_)
        generalize hax : putAll _ _ tv _ = ax at hK ⊢
        simp only [putAll, Act.put, List.setIfInBounds_toArray, List.set_cons_zero, List.set_cons_succ, e9] at hax
        rw [← hax]
        go_simp
        exact hK _ _ ⟨⟨_, by rw [← hax]; rfl, rfl⟩, (by repeat (first | exact Below.refl _ _ | assumption | refine Below.drew ?_ | refine Below.drewN ?_ _ | refine Below.allocT ?_ (Nat.le_refl _) _ | refine Below.setCell ?_ (by simp <;> omega) _ | refine Below.to ?_ (by assumption) (Nat.le_refl _))), (by repeat (first | exact Below.refl _ _ | assumption | refine Below.drew ?_ | refine Below.drewN ?_ _ | refine Below.allocT ?_ (Nat.le_refl _) _ | refine Below.setCell ?_ (by simp <;> omega) _ | refine Below.to ?_ (by assumption) (Nat.le_refl _)))⟩
      · have e9 : tv 9 = .tuple #[.int .i64 pv, .int .i64 pw, .int .i64 pe] := hd 9 (by decide) (by kernel_rfl)
        refine wpOp_step rfl (fun K hK => ?_)
        generalize hax : putAll _ _ tv _ = ax at hK ⊢
        simp only [putAll, Act.put, List.setIfInBounds_toArray, List.set_cons_zero, List.set_cons_succ, e9] at hax
        rw [← hax]
        go_simp
        exact hK _ _ ⟨⟨_, by rw [← hax]; rfl, rfl⟩, (by repeat (first | exact Below.refl _ _ | assumption | refine Below.drew ?_ | refine Below.drewN ?_ _ | refine Below.allocT ?_ (Nat.le_refl _) _ | refine Below.setCell ?_ (by simp <;> omega) _ | refine Below.to ?_ (by assumption) (Nat.le_refl _))), (by repeat (first | exact Below.refl _ _ | assumption | refine Below.drew ?_ | refine Below.drewN ?_ _ | refine Below.allocT ?_ (Nat.le_refl _) _ | refine Below.setCell ?_ (by simp <;> omega) _ | refine Below.to ?_ (by assumption) (Nat.le_refl _)))⟩
      · have e10 : tv 10 = .int .i64 pv := hd 10 (by decide) (by kernel_rfl)
        refine wpOp_step rfl (fun K hK => ?_)
        generalize hax : putAll _ _ tv _ = ax at hK ⊢
        simp only [putAll, Act.put, List.setIfInBounds_toArray, List.set_cons_zero, List.set_cons_succ, e10] at hax
        rw [← hax]
        go_simp
        exact hK _ _ ⟨⟨_, by rw [← hax]; rfl, rfl⟩, (by repeat (first | exact Below.refl _ _ | assumption | refine Below.drew ?_ | refine Below.drewN ?_ _ | refine Below.allocT ?_ (Nat.le_refl _) _ | refine Below.setCell ?_ (by simp <;> omega) _ | refine Below.to ?_ (by assumption) (Nat.le_refl _))), (by repeat (first | exact Below.refl _ _ | assumption | refine Below.drew ?_ | refine Below.drewN ?_ _ | refine Below.allocT ?_ (Nat.le_refl _) _ | refine Below.setCell ?_ (by simp <;> omega) _ | refine Below.to ?_ (by assumption) (Nat.le_refl _)))⟩
      · have e11 : tv 11 = .int .i64 pw := hd 11 (by decide) (by kernel_rfl)
        refine wpOp_step rfl (fun K hK => ?_)
        generalize hax : putAll _ _ tv _ = ax at hK ⊢
        simp only [putAll, Act.put, List.setIfInBounds_toArray, List.set_cons_zero, List.set_cons_succ, e11] at hax
        rw [← hax]
        go_simp
        exact hK _ _ ⟨⟨_, by rw [← hax]; rfl, rfl⟩, (by repeat (first | exact Below.refl _ _ | assumption | refine Below.drew ?_ | refine Below.drewN ?_ _ | refine Below.allocT ?_ (Nat.le_refl _) _ | refine Below.setCell ?_ (by simp <;> omega) _ | refine Below.to ?_ (by assumption) (Nat.le_refl _))), (by repeat (first | exact Below.refl _ _ | assumption | refine Below.drew ?_ | refine Below.drewN ?_ _ | refine Below.allocT ?_ (Nat.le_refl _) _ | refine Below.setCell ?_ (by simp <;> omega) _ | refine Below.to ?_ (by assumption) (Nat.le_refl _)))⟩
    case hend =>
      intro tv w5 hS hR
      have e12 : tv 12 = .int .i64 pe := hR 12 (by decide)
      have e13 : tv 13 = .int .i64 pv := hR 13 (by decide)
      have e14 : tv 14 = .int .i64 pw := hR 14 (by decide)
      clear hR
      simp only [putAll, Act.put, List.setIfInBounds_toArray, List.set_cons_zero, List.set_cons_succ, e12, e13, e14]
      refine wpAnyH_ready (rs := [15]) (by kernel_rfl) (by simp) ?_
      refine AllReadyH.cons rfl (fun K hK => ?_) AllReadyH.nil
      go_simp
      refine hK.out _ _ ?_ (fun hNext => ?_)
      · exact (by repeat (first | exact Below.refl _ _ | assumption | refine Below.drew ?_ | refine Below.drewN ?_ _ | refine Below.allocT ?_ (Nat.le_refl _) _ | refine Below.setCell ?_ (by simp <;> omega) _ | refine Below.to ?_ (by assumption) (Nat.le_refl _)))
      clear hK K
      refine wpAnyH_done (by kernel_rfl) ?_ _
      go_wp2_with fail
      go_meet
      case rel => exact ⟨rfl, rfl, rfl, hNext⟩
  case rest =>
    obtain ⟨rfl, rfl, rfl, hBc⟩ := hcut
    obtain ⟨wk, rfl⟩ : ∃ x : World, x = wc := ⟨_, rfl⟩
    have HB1 := hide hBc.out
    clear hBc k0 k1 k2 k3
    obtain ⟨k0, k1, k2, k3, _⟩ := need4 HN0.out HB1.out
    have HB1w : Hid (Below w.heap.size w wk) := Below.to HB0.out HB1.out (Nat.le_refl _)
    go_wp2_with fail
    refine (rPick_any gs fs n _ _ _ cs _ hg30 hf30 hn' (Sl.more (Sl.below HGS.out HB1w.out) HB1w.out.size) (Sl.more (Sl.below HFS.out HB1w.out) HB1w.out.size) (HC0.out.up HB1.out)).mono ?_
    rw [HPV.out, HPW.out, HPE.out]
    rintro e w9 ⟨rfl, hB9⟩
    have HB9 : Hid (Below w.heap.size w w9) := Below.to HB1w.out hB9 (Nat.le_refl _)
    have HB90 : Hid (Below w0.heap.size w0 w9) := Below.to HB1.out hB9 (Nat.le_refl _)
    clear hB9 k0 k1 k2 k3
    by_cases hp0 : pe = 0
    · subst hp0
      have HPL := hide (pick_weak HPE.out)
      obtain ⟨k0, k1, k2, k3, _⟩ := need4 HN0.out HB90.out
      have hl9 : w.heap.size < w9.heap.size := by have := HB90.out.size; omega
      have HC9 : Hid (Cyc w9 w9.heap.size (.slice A0 cs.length cap0) cs) := HC0.out.up HB90.out
      go_wp2_with fail
      go_cut [13] from 65 to 94 (fun p wc => ∃ pb x y v' g, p = .pointer (some ⟨pb, 0, none⟩) ∧ Hid (wc.heap[pb]? = some (.cells #[x, y, .slice (some ⟨g, 0, none⟩) 1 1] 63 (0, 0)) ∧ wc.ownsRow w9.heap.size 23 5 x gs.length (flat gs.length 5 (gaF gs)) ∧ wc.ownsRow w9.heap.size 30 2 y fs.length (flat fs.length 2 (fuF fs)) ∧ wc.heap[g]? = some (.cells #[.int .i64 (-1), .int .i64 pv, .int .i64 pw, v', .int .i64 n.len, .int .i64 n.drop, .int .i64 n.amb] 74 (0, 0)) ∧ wc.ownsRow w9.heap.size 54 2 v' cs.length (flat cs.length 2 (cyF cs)) ∧ Below w9.heap.size w9 wc))
      case first =>
        refine wp_region_held_drew (S := (fun w' => Below w9.heap.size w9 w')) (by kernel_rfl) ?_ (fun hHeld => ?_)
        · try dsimp only
          exact (by repeat (first | exact Below.refl _ _ | assumption | refine Below.drew ?_ | refine Below.drewN ?_ _ | refine Below.allocT ?_ (Nat.le_refl _) _ | refine Below.setCell ?_ (by simp <;> omega) _ | refine Below.to ?_ (by assumption) (Nat.le_refl _)))
        refine wpAnyH_take (i := 1) (v := ?v2_1) rfl (by kernel_rfl) (by kernel_rfl) (by kernel_rfl) (fun _ _ _ h => h) (Or.inl ⟨by rfl, ?y2_1⟩) (by assumption) ?r2_1
        case' y2_1 => (intro w hSw; (try dsimp only at hSw); obtain ⟨hcS, hfS⟩ := bcell hSw; clear hSw; go_simp; try with_reducible rfl)
        try simp only [Act.put, List.getElem_toArray, List.getElem_cons_succ, List.getElem_cons_zero, List.setIfInBounds_toArray, List.set_cons_zero, List.set_cons_succ]
        refine wpAnyH_take (i := 4) (v := ?v2_4) rfl (by kernel_rfl) (by kernel_rfl) (by kernel_rfl) (fun _ _ _ h => h) (Or.inl ⟨by rfl, ?y2_4⟩) (by assumption) ?r2_4
        case' y2_4 => (intro w hSw; (try dsimp only at hSw); obtain ⟨hcS, hfS⟩ := bcell hSw; clear hSw; go_simp; try with_reducible rfl)
        try simp only [Act.put, List.getElem_toArray, List.getElem_cons_succ, List.getElem_cons_zero, List.setIfInBounds_toArray, List.set_cons_zero, List.set_cons_succ]
        refine wpAnyH_take (i := 6) (v := ?v2_6) rfl (by kernel_rfl) (by kernel_rfl) (by kernel_rfl) (fun _ _ _ h => h) (Or.inl ⟨by rfl, ?y2_6⟩) (by assumption) ?r2_6
        case' y2_6 => (intro w hSw; (try dsimp only at hSw); obtain ⟨hcS, hfS⟩ := bcell hSw; clear hSw; go_simp; try with_reducible rfl)
        try simp only [Act.put, List.getElem_toArray, List.getElem_cons_succ, List.getElem_cons_zero, List.setIfInBounds_toArray, List.set_cons_zero, List.set_cons_succ]
        refine wpAnyH_take (i := 7) (v := ?v2_7) rfl (by kernel_rfl) (by kernel_rfl) (by kernel_rfl) (fun _ _ _ h => h) (Or.inl ⟨by rfl, ?y2_7⟩) (by assumption) ?r2_7
        case' y2_7 => (intro w hSw; (try dsimp only at hSw); obtain ⟨hcS, hfS⟩ := bcell hSw; clear hSw; go_simp; try with_reducible rfl)
        try simp only [Act.put, List.getElem_toArray, List.getElem_cons_succ, List.getElem_cons_zero, List.setIfInBounds_toArray, List.set_cons_zero, List.set_cons_succ]
        refine wpAnyH_take (i := 8) (v := ?v2_8) rfl (by kernel_rfl) (by kernel_rfl) (by kernel_rfl) (fun _ _ _ h => h) (Or.inl ⟨by rfl, ?y2_8⟩) (by assumption) ?r2_8
        case' y2_8 => (intro w hSw; (try dsimp only at hSw); obtain ⟨hcS, hfS⟩ := bcell hSw; clear hSw; go_simp; try with_reducible rfl)
        try simp only [Act.put, List.getElem_toArray, List.getElem_cons_succ, List.getElem_cons_zero, List.setIfInBounds_toArray, List.set_cons_zero, List.set_cons_succ]
        refine wpAnyH_start [0, 2, 3, 5, 9, 10, 11, 12, 13] (fun j => match j with | 0 => 67 | 2 => 69 | 3 => 70 | 5 => 72 | 9 => 76 | 10 => 77 | 11 => 78 | 12 => 79 | 13 => 13 | _ => 0) (pickQ w9 gs fs n cs pv pw) 1 rfl (by kernel_rfl) (by kernel_rfl) (by decide) (by decide) (by kernel_rfl) hHeld ?hkeep ?hstep ?hend
        case hkeep => exact fun j _ v w w' hb h => pickQ_keep j hb h
        case hstep =>
          intro j hj tv w5 hS hd
          have hsz0 : w9.heap.size ≤ w5.heap.size := hS.size
          simp only [List.mem_cons, List.not_mem_nil, or_false] at hj
          rcases hj with rfl | rfl | rfl | rfl | rfl | rfl | rfl | rfl | rfl
          · refine wpOp_step rfl (fun K hK => ?_)
            generalize hax : putAll _ _ tv _ = ax at hK ⊢
            simp only [putAll, Act.put, List.setIfInBounds_toArray, List.set_cons_zero, List.set_cons_succ] at hax
            rw [← hax]
            go_simp
            exact hK _ _ ⟨⟨_, by rw [← hax]; rfl, by simp; omega, _, rfl, World.ownsRow_made w5 #[] 0 hsz0 (by unfold maxLen; omega) rfl⟩, (by repeat (first | exact Below.refl _ _ | assumption | refine Below.drew ?_ | refine Below.drewN ?_ _ | refine Below.allocT ?_ (Nat.le_refl _) _ | refine Below.setCell ?_ (by simp <;> omega) _ | refine Below.to ?_ (by assumption) (Nat.le_refl _))), (by repeat (first | exact Below.refl _ _ | assumption | refine Below.drew ?_ | refine Below.drewN ?_ _ | refine Below.allocT ?_ (Nat.le_refl _) _ | refine Below.setCell ?_ (by simp <;> omega) _ | refine Below.to ?_ (by assumption) (Nat.le_refl _)))⟩
          · obtain ⟨_, g, hg, hown⟩ := hd 0 (by decide) (by kernel_rfl)
            rw [hg] at hown
            refine wpOp_step rfl (fun K hK => ?_)
            generalize hax : putAll _ _ tv _ = ax at hK ⊢
            simp only [putAll, Act.put, List.setIfInBounds_toArray, List.set_cons_zero, List.set_cons_succ] at hax
            have evs : ax.eval (.tmp 67) = .slice (some ⟨g, 0, none⟩) 0 0 := by rw [← hax]; exact hg
            have ex := congrArg (fun a => Act.eval a (.tmp 68)) hax.symm
            refine step_append_fresh _ (by rfl) (.tmp 67) (.tmp 68) _ (by rfl) w9.heap.size 23 i0 _ 5 40 Try.underlying57 hi0 hz0 hz1 hz2 (by rfl) (by omega) g evs hown w5.heap.size A1 gs.length cap1 (flat gs.length 5 (gaF gs)) ex (Sl.reads ((Sl.below HGS.out (Below.to HB9.out hS (Nat.le_refl _))).more (by have := HB9.out.size; omega)) (by omega)) (flat_one (by omega) (gaF_one gs)) (by unfold maxLen; omega) (by omega) hsz0 ?_
            intro v' w' hown' hB'
            exact hK _ _ ⟨⟨_, rfl, hown'⟩, hB', (by repeat (first | exact Below.refl _ _ | assumption | refine Below.drew ?_ | refine Below.drewN ?_ _ | refine Below.allocT ?_ (Nat.le_refl _) _ | refine Below.setCell ?_ (by simp <;> omega) _ | refine Below.to ?_ (by assumption) (Nat.le_refl _)))⟩
          · refine wpOp_step rfl (fun K hK => ?_)
            generalize hax : putAll _ _ tv _ = ax at hK ⊢
            simp only [putAll, Act.put, List.setIfInBounds_toArray, List.set_cons_zero, List.set_cons_succ] at hax
            rw [← hax]
            go_simp
            exact hK _ _ ⟨⟨_, by rw [← hax]; rfl, by simp; omega, _, rfl, World.ownsRow_made w5 #[] 0 hsz0 (by unfold maxLen; omega) rfl⟩, (by repeat (first | exact Below.refl _ _ | assumption | refine Below.drew ?_ | refine Below.drewN ?_ _ | refine Below.allocT ?_ (Nat.le_refl _) _ | refine Below.setCell ?_ (by simp <;> omega) _ | refine Below.to ?_ (by assumption) (Nat.le_refl _))), (by repeat (first | exact Below.refl _ _ | assumption | refine Below.drew ?_ | refine Below.drewN ?_ _ | refine Below.allocT ?_ (Nat.le_refl _) _ | refine Below.setCell ?_ (by simp <;> omega) _ | refine Below.to ?_ (by assumption) (Nat.le_refl _)))⟩
          · obtain ⟨_, g, hg, hown⟩ := hd 3 (by decide) (by kernel_rfl)
            rw [hg] at hown
            refine wpOp_step rfl (fun K hK => ?_)
            generalize hax : putAll _ _ tv _ = ax at hK ⊢
            simp only [putAll, Act.put, List.setIfInBounds_toArray, List.set_cons_zero, List.set_cons_succ] at hax
            have evs : ax.eval (.tmp 70) = .slice (some ⟨g, 0, none⟩) 0 0 := by rw [← hax]; exact hg
            have ex := congrArg (fun a => Act.eval a (.tmp 71)) hax.symm
            refine step_append_fresh _ (by rfl) (.tmp 70) (.tmp 71) _ (by rfl) w9.heap.size 30 i1 _ 2 16 Try.underlying60 hi1 hy0 hy1 hy2 (by rfl) (by omega) g evs hown w5.heap.size A2 fs.length cap2 (flat fs.length 2 (fuF fs)) ex (Sl.reads ((Sl.below HFS.out (Below.to HB9.out hS (Nat.le_refl _))).more (by have := HB9.out.size; omega)) (by omega)) (flat_one (by omega) (fuF_one fs)) (by unfold maxLen; omega) (by omega) hsz0 ?_
            intro v' w' hown' hB'
            exact hK _ _ ⟨⟨_, rfl, hown'⟩, hB', (by repeat (first | exact Below.refl _ _ | assumption | refine Below.drew ?_ | refine Below.drewN ?_ _ | refine Below.allocT ?_ (Nat.le_refl _) _ | refine Below.setCell ?_ (by simp <;> omega) _ | refine Below.to ?_ (by assumption) (Nat.le_refl _)))⟩
          · refine wpOp_step rfl (fun K hK => ?_)
            generalize hax : putAll _ _ tv _ = ax at hK ⊢
            simp only [putAll, Act.put, List.setIfInBounds_toArray, List.set_cons_zero, List.set_cons_succ] at hax
            subst hax
            go_simp
            (go_at_call 32; refine (copyNeed_own n _ cs w5 hn' ((HC9.out.below hS).more hsz0)).mono ?_; rintro e w6 ⟨v6, rfl, hc6, hB6⟩)
            (try dsimp only)
            exact hK _ _ ⟨⟨_, rfl, v6, rfl, owns_base hc6 hsz0⟩, hB6, Below.to hS hB6 (Nat.le_refl _)⟩
          · obtain ⟨v7, e7, h7⟩ := hd 9 (by decide) (by kernel_rfl)
            obtain ⟨A7, c7, rfl⟩ := owns_form h7
            have HD := hide h7
            clear hd h7
            refine wpOp_step rfl (fun K hK => ?_)
            generalize hax : putAll _ _ tv _ = ax at hK ⊢
            simp only [putAll, Act.put, List.setIfInBounds_toArray, List.set_cons_zero, List.set_cons_succ, e7] at hax
            rw [← hax]
            go_simp
            exact hK _ _ ⟨⟨_, by rw [← hax]; rfl, _, rfl, HD.out⟩, (by repeat (first | exact Below.refl _ _ | assumption | refine Below.drew ?_ | refine Below.drewN ?_ _ | refine Below.allocT ?_ (Nat.le_refl _) _ | refine Below.setCell ?_ (by simp <;> omega) _ | refine Below.to ?_ (by assumption) (Nat.le_refl _))), (by repeat (first | exact Below.refl _ _ | assumption | refine Below.drew ?_ | refine Below.drewN ?_ _ | refine Below.allocT ?_ (Nat.le_refl _) _ | refine Below.setCell ?_ (by simp <;> omega) _ | refine Below.to ?_ (by assumption) (Nat.le_refl _)))⟩
          · obtain ⟨v7, e7, h7⟩ := hd 10 (by decide) (by kernel_rfl)
            obtain ⟨A7, c7, rfl⟩ := owns_form h7
            have HD := hide h7
            clear hd h7
            refine wpOp_step rfl (fun K hK => ?_)
            generalize hax : putAll _ _ tv _ = ax at hK ⊢
            simp only [putAll, Act.put, List.setIfInBounds_toArray, List.set_cons_zero, List.set_cons_succ, e7] at hax
            rw [← hax]
            go_simp
            exact hK _ _ ⟨⟨_, by rw [← hax]; rfl, _, _, rfl, hsz0, heap_alloc_new _ _, HD.out.alloc _⟩, (by repeat (first | exact Below.refl _ _ | assumption | refine Below.drew ?_ | refine Below.drewN ?_ _ | refine Below.allocT ?_ (Nat.le_refl _) _ | refine Below.setCell ?_ (by simp <;> omega) _ | refine Below.to ?_ (by assumption) (Nat.le_refl _))), (by repeat (first | exact Below.refl _ _ | assumption | refine Below.drew ?_ | refine Below.drewN ?_ _ | refine Below.allocT ?_ (Nat.le_refl _) _ | refine Below.setCell ?_ (by simp <;> omega) _ | refine Below.to ?_ (by assumption) (Nat.le_refl _)))⟩
          · have h2 := hd 2 (by decide) (by kernel_rfl)
            have h5 := hd 5 (by decide) (by kernel_rfl)
            obtain ⟨v7, g7, e7, hg7, hh7, h7⟩ := hd 11 (by decide) (by kernel_rfl)
            obtain ⟨A3, c3, e3⟩ := owns_form h2
            obtain ⟨A4, c4, e4⟩ := owns_form h5
            rw [e3] at h2
            rw [e4] at h5
            have HD := hide (And.intro h2 (And.intro h5 (And.intro hg7 (And.intro hh7 h7))))
            clear hd h2 h5 hg7 hh7 h7
            refine wpOp_step rfl (fun K hK => ?_)
            generalize hax : putAll _ _ tv _ = ax at hK ⊢
            simp only [putAll, Act.put, List.setIfInBounds_toArray, List.set_cons_zero, List.set_cons_succ, e3, e4, e7] at hax
            rw [← hax]
            go_simp
            exact hK _ _ ⟨⟨_, by rw [← hax]; rfl, _, _, _, _, rfl, HD.out.1, HD.out.2.1, HD.out.2.2.1, HD.out.2.2.2.1, HD.out.2.2.2.2⟩, (by repeat (first | exact Below.refl _ _ | assumption | refine Below.drew ?_ | refine Below.drewN ?_ _ | refine Below.allocT ?_ (Nat.le_refl _) _ | refine Below.setCell ?_ (by simp <;> omega) _ | refine Below.to ?_ (by assumption) (Nat.le_refl _))), (by repeat (first | exact Below.refl _ _ | assumption | refine Below.drew ?_ | refine Below.drewN ?_ _ | refine Below.allocT ?_ (Nat.le_refl _) _ | refine Below.setCell ?_ (by simp <;> omega) _ | refine Below.to ?_ (by assumption) (Nat.le_refl _)))⟩
          · refine wpOp_step rfl (fun K hK => ?_)
            generalize hax : putAll _ _ tv _ = ax at hK ⊢
            simp only [putAll, Act.put, List.setIfInBounds_toArray, List.set_cons_zero, List.set_cons_succ] at hax
            rw [← hax]
            go_simp
            exact hK _ _ ⟨⟨_, by rw [← hax]; rfl, _, rfl, hsz0, heap_alloc_new _ _⟩, (by repeat (first | exact Below.refl _ _ | assumption | refine Below.drew ?_ | refine Below.drewN ?_ _ | refine Below.allocT ?_ (Nat.le_refl _) _ | refine Below.setCell ?_ (by simp <;> omega) _ | refine Below.to ?_ (by assumption) (Nat.le_refl _))), (by repeat (first | exact Below.refl _ _ | assumption | refine Below.drew ?_ | refine Below.drewN ?_ _ | refine Below.allocT ?_ (Nat.le_refl _) _ | refine Below.setCell ?_ (by simp <;> omega) _ | refine Below.to ?_ (by assumption) (Nat.le_refl _)))⟩
        case hend =>
          intro tv w5 hS hR
          obtain ⟨x, y, v', g, e12, hx, hy, hg, hgh, hv⟩ := hR 12 (by decide)
          obtain ⟨p, e13, hp, hpb⟩ := hR 13 (by decide)
          clear hR
          obtain ⟨A3, c3, rfl⟩ := owns_form hx
          obtain ⟨A4, c4, rfl⟩ := owns_form hy
          have p0 := cellOf hpb 0
          have p1 := cellOf hpb 1
          have p2 := cellOf hpb 2
          have q0 := unfrozenOf hpb 0
          have q1 := unfrozenOf hpb 1
          have q2 := unfrozenOf hpb 2
          have HX := hide hx
          have HY := hide hy
          have HG := hide hgh
          have HV := hide hv
          have HP := hide hpb
          clear hx hy hgh hv hpb
          simp only [putAll, Act.put, List.setIfInBounds_toArray, List.set_cons_zero, List.set_cons_succ, e12, e13]
          refine wpAnyH_ready (rs := [14]) (by kernel_rfl) (by simp) ?_
          refine AllReadyH.cons rfl (fun K hK => ?_) AllReadyH.nil
          go_simp
          refine hK.out _ _ ?_ (fun hNext => ?_)
          · refine Below.setCell (Below.setCell (Below.setCell hS ?_ _) ?_ _) ?_ _ <;> exact hp
          clear hK K
          refine wpAnyH_done (by kernel_rfl) ?_ _
          go_wp2_with fail
          go_meet
          case rel =>
            generalize hwz : World.setCell _ _ _ = wz at hNext ⊢
            have hhz := setCellOf (i := 2) (setCellOf (i := 1) (setCellOf (i := 0) HP.out (.slice A3 gs.length c3)) (.slice A4 fs.length c4)) (.slice (some ⟨g, 0, none⟩) 1 1)
            rw [hwz] at hhz
            have hgr : w5.grownBy wz (some p) := by
              rw [← hwz]
              refine only_setCell (only_setCell (only_setCell (only_refl _ _) ?_ _) ?_ _) ?_ _
              all_goals exact .inl rfl
            have hgp : g ≠ p := fun e => by
              have h1 := HG.out
              rw [e, HP.out] at h1
              injection h1 with h1
              injection h1 with _ h1
              exact absurd h1 (by decide)
            exact ⟨p, _, _, v', g, rfl, hhz, owns_grown HX.out hgr HP.out (by decide), owns_grown HY.out hgr HP.out (by decide), (hgr.block g (box_lt HG.out) (fun e => hgp (by injection e))).trans HG.out, owns_grown HV.out hgr HP.out (by decide), hNext⟩
      case rest =>
        obtain ⟨pb, x, y, v', g, rfl, hX⟩ := hcut
        clear k0 k1 k2 k3
        obtain ⟨hbox, hx, hy, hg, hv, hBz⟩ := hX.out
        clear hX
        obtain ⟨A3, c3, rfl⟩ := owns_form hx
        obtain ⟨A4, c4, rfl⟩ := owns_form hy
        obtain ⟨A5, c5, rfl⟩ := owns_form hv
        have HW : Hid (Wir wc wc.heap.size (.slice A3 gs.length c3) (.slice A4 fs.length c4) (.slice (some ⟨g, 0, none⟩) 1 1) gs fs [⟨-1, pv, pw, n, cs⟩]) := by
          refine ⟨Sl.of_owns hx (fun i j hi hj => flat_get hi hj), Sl.of_owns hy (fun i j hi hj => flat_get hi hj), fun _ => .slice A5 cs.length c5, ⟨_, g, 0, 1, rfl, Nat.le_refl _, .inl ⟨rfl, box_lt hg⟩, fun i j hi hj => ?_⟩, fun i hi => ?_⟩
          · have hi0 : i = 0 := by have : i < 1 := hi; omega
            subst hi0
            rw [cellOf hg]
            match j, hj with
            | 0, _ => rfl
            | 1, _ => rfl
            | 2, _ => rfl
            | 3, _ => rfl
            | 4, _ => rfl
            | 5, _ => rfl
            | 6, _ => rfl
          · have hi0 : i = 0 := by have : i < 1 := hi; omega
            subst hi0
            exact Sl.of_owns hv (fun i j hi hj => flat_get hi hj)
        have p0 := cellOf hbox 0
        have p1 := cellOf hbox 1
        have p2 := cellOf hbox 2
        have HBz := hide hBz
        clear hbox hx hy hg hv hBz
        have HSZ : Hid (WSz gs fs [⟨-1, pv, pw, n, cs⟩]) := ⟨hg30, hf30, by simp, fun i hi => by
          have hi0 : i = 0 := by have : i < 1 := hi; omega
          subst hi0
          exact hn'⟩
        have hw0' := HPL.out
        rw [HPV.out, HPW.out] at hw0'
        have HPK := hide hw0'
        clear hw0'
        go_wp2_with fail
        refine (Weak_any gs fs [⟨-1, pv, pw, n, cs⟩] _ _ _ _ HSZ.out HW.out).mono ?_
        rw [HPK.out.1, HPK.out.2]
        rintro e w7 ⟨⟨v7, rfl, hS7⟩, hB7⟩
        obtain ⟨A7, c7, rfl⟩ := Sl.form hS7
        clear hS7 p0 p1 p2
        go_wp2_with (go_at_call 17; refine (works_any _).mono ?_; rintro e w8 ⟨rfl, hB8⟩)
        go_ret
        exact ⟨rfl, Below.to (Below.to (Below.to HB9.out HBz.out (Nat.le_refl _)) hB7 (Nat.le_refl _)) hB8 (Nat.le_refl _)⟩
    · have hp1 : (pe != 0) = true := by simp [hp0]
      have hp2 : (pe != pe) = false := by simp
      have hp3 : (pv != pv) = false := by simp
      have hp4 : (pw != pw) = false := by simp
      go_wp2_with (go_at_call 17; refine (works_any _).mono ?_; rintro e w8 ⟨rfl, hB8⟩)
      go_ret
      exact ⟨rfl, Below.to HB9.out hB8 (Nat.le_refl _)⟩

theorem own_WiresPicks : ownKnob Try.prog.godebug = none := by kernel_rfl
theorem laid_WiresPicks : laidOutB Try.prog = true := by kernel_rfl
theorem par_WiresPicks : ∀ t ∈ Try.f12.params.toList, Try.prog.readableRec t = true ∧ t < Try.prog.types.size := by
  rw [Try.params12]
  intro t ht
  simp only [List.mem_cons, List.not_mem_nil, or_false] at ht
  rcases ht with rfl | rfl | rfl <;> exact ⟨by kernel_rfl, of_decide_eq_true (by kernel_rfl)⟩
set_option maxRecDepth 100000 in
theorem wiresPicks_lifted (os : Os) (started : os.Started) (H : Type) (enc : TypeId × Value → H) :
    ReturnsInHanded {} Try.checked os 12 .any (Rows.wiresPicksSpec.pre6 enc Try.prog Try.f12 Rows.wiresPicksRow.domain false) (Rows.wiresPicksSpec.post enc Try.prog Try.f12 false true false false) := by
  refine returnsInHanded_of_change (C := Try.checked) own_WiresPicks started (by kernel_rfl) Try.func12
    (ChangeSpec.witness6 (enc := enc) (C := Try.checked) false ⟨#[], #[.slice none 0 0, .slice none 0 0, .agg #[.slice none 0 0, .int .i64 0, .int .i64 0, .int .i64 0]], []⟩ 8 (by kernel_rfl) (by kernel_rfl) (by kernel_rfl) (by kernel_rfl)) ?_
  intro W base args ds gs before hval0 hW hcnd _
  have hval : ∀ (j : Nat) t v, Try.f12.params[j]? = some t → args[j]? = some v → Value.okWide Try.prog W .any base t v := hval0
  have hW' := hW
  obtain ⟨p, q, hA0, hV, rfl, hfz, hnd⟩ := hW
  have hA : DataW.TrodAll enc Try.prog W 0 (fun _ => true) true Try.f12.params.toList args.toList ds p := hA0
  have hAll := hA
  have hltp : ∀ x ∈ p, x.block < W.heap.size := fun x hx => hW'.lt x (List.mem_append_left _ hx)
  rw [Try.params12] at hA hval
  obtain ⟨v0, v1, v2, d0, d1, d2, p0, p1, p2, rfl, rfl, rfl, h0, h1, h2⟩ := trodAll_three hA
  obtain ⟨rfl, rfl⟩ := trodVars_none hV
  obtain ⟨gs, hgs, hgl⟩ := open_gauges (hval 0 57 v0 rfl rfl) h0
  obtain ⟨fs, hfs, hfl⟩ := open_fuses (hval 1 60 v1 rfl rfl) h1
  obtain ⟨c, cs, n, rfl, hcy, hcl, _⟩ := open_need (hval 2 48 v2 rfl rfl) h2
  refine (wiresPicks_walk gs fs n v0 v1 c cs W hcl hgl hfl hgs hfs hcy).mono fun e W2 ⟨he, hb⟩ => ?_
  subst he
  exact ⟨_, rfl, post_of_below (pv := []) hW' (fun _ _ _ => trodAll_mk1 (shut_bool Try.underlying4 _)) (fun sp hsp => trodAll_stays laid_WiresPicks hb sp _ _ _ _ par_WiresPicks hAll hltp (fun x hx => hsp x (List.mem_append_left _ hx))) (fun _ _ => rfl) rfl hb
    (ok_one (by kernel_rfl) rfl (okWide_bool_mk Try.underlying4 _))⟩
theorem wiresPicks_holds : Rows.WiresPicksSaid :=
  OpenClaim.holds_of_wide 12 Try.f12 rfl rfl rfl rfl rfl rfl rfl ⟨rfl, rfl, rfl, rfl, rfl⟩ rfl rfl rfl rfl rfl (by kernel_rfl) Try.func12 (by kernel_rfl)
    (of_decide_eq_true (by kernel_rfl)) (by unfold Func.isWrapper; first | (rw [if_pos (by decide +kernel)]; kernel_rfl) | (rw [if_neg (by decide +kernel)]; exact ⟨rfl, rfl⟩))
    (fun os started H enc _ => wiresPicks_lifted os started H enc)
#print axioms wiresPicks_holds

end Go.Proofs.Ytejjjijaojkohaa

/- The check of a wiring: the program's walk. -/
import Derived.Test.YtejjjijaojkohaaRows
import Derived.Test.YtejjjijaojkohaaW33
import Derived.Deep.CutRange
namespace Go.Proofs.Ytejjjijaojkohaa
open Go.RowKit
set_option linter.unusedVariables false
set_option linter.unusedSimpArgs false

set_option maxRecDepth 100000 in
set_option maxHeartbeats 4000000 in
theorem Check_any (gs : List Ga) (fs : List Fu) (es : List Fe) (gv fv ev : Value) (w : World) (hz : WSz gs fs es) (h : Wir w w.heap.size gv fv ev gs fs es) :
    Calls Try.prog 41 #[.agg #[gv, fv, ev]] w fun e w' => e = .returned (.int .i64 (chkErr gs fs es)) ∧ Below w.heap.size w w' := by
  have H := hide h
  obtain ⟨A0, cap0, rfl⟩ := Sl.form h.g
  obtain ⟨A1, cap1, rfl⟩ := Sl.form h.f
  obtain ⟨cv, hsl, hcy⟩ := h.e
  obtain ⟨A, b, off, cap, rfl, hnc, hA, hc⟩ := hsl
  have HC := hide hc
  have HA := hide hA
  have HCY := hide hcy
  have HZ_ := hide hz
  have hg30 := hz.g
  have hf30 := hz.f
  have he30 := hz.e
  clear h hc hA hcy hz
  obtain ⟨bg, hbg⟩ : ∃ d, bigB gs fs es = d := ⟨_, rfl⟩
  obtain ⟨y, hy⟩ : ∃ y, gasErr gs = y := ⟨_, rfl⟩
  obtain ⟨z, hz⟩ : ∃ z, fusErr fs = z := ⟨_, rfl⟩
  obtain ⟨x, hx⟩ : ∃ x : Int, (if bg then (2 : Int) else 0) = x := ⟨_, rfl⟩
  obtain ⟨u, hu⟩ : ∃ u : Int, (if x = 0 then if y = 0 then z else y else x) = u := ⟨_, rfl⟩
  have hE0 : u = 0 → bg = false ∧ tableB gs = true ∧ fusB fs = true ∧ chkErr gs fs es = (if fesB gs fs es then 0 else 71) := by
    intro h0
    rw [← hu, ← hx, ← hy, ← hz] at h0
    unfold chkErr
    rw [hbg]
    unfold gasErr fusErr at h0
    cases bg <;> cases ht : tableB gs <;> cases hn2 : fusB fs <;> simp [ht, hn2] at h0 ⊢
  have hE1 : u ≠ 0 → chkErr gs fs es = u := by
    intro h0
    rw [← hu, ← hx, ← hy, ← hz] at h0 ⊢
    unfold chkErr
    rw [hbg]
    unfold gasErr fusErr at h0 ⊢
    cases bg <;> cases ht : tableB gs <;> cases hn2 : fusB fs <;> simp [ht, hn2] at h0 ⊢
  have HE0 := hide hE0
  have HE1 := hide hE1
  have HX := hide hx
  have HY := hide hy
  have HZ2 := hide hz
  have HU := hide hu
  clear hx hy hz hu hE0 hE1
  have hcases : (decide ((20 : Int) < (gs.length : Int)) = true ∧ bg = true) ∨ (decide ((20 : Int) < (gs.length : Int)) = false ∧ decide ((20 : Int) < (fs.length : Int)) = true ∧ bg = true) ∨ (decide ((20 : Int) < (gs.length : Int)) = false ∧ decide ((20 : Int) < (fs.length : Int)) = false ∧ decide ((20 : Int) < (es.length : Int)) = bg) := by
    rw [← hbg]
    unfold bigB
    simp only [decide_eq_true_eq, decide_eq_false_iff_not, Bool.or_eq_true]
    by_cases h1 : 20 < gs.length
    · exact .inl ⟨by omega, .inl (.inl h1)⟩
    · by_cases h2 : 20 < fs.length
      · exact .inr (.inl ⟨by omega, by omega, .inl (.inr h2)⟩)
      · refine .inr (.inr ⟨by omega, by omega, ?_⟩)
        rw [show decide (20 < gs.length) = false by simpa using h1, show decide (20 < fs.length) = false by simpa using h2, Bool.false_or, Bool.false_or, decide_eq_decide]
        omega
  clear hbg
  go_enter Try.func41, Try.ntmps41
  go_upto_region 1 with (fail)
  generalize hw0 : World.alloc _ _ = w0
  obtain ⟨hb0, hB0, hs0⟩ := alloc1 hw0
  clear hw0
  have hwi : WiAt w0 w.heap.size (.slice A0 gs.length cap0) (.slice A1 fs.length cap1) (.slice A es.length cap) := hb0
  have hl0 : w.heap.size < w0.heap.size := by omega
  clear hs0
  obtain ⟨k0, k1, k2, _⟩ := wi3 hwi (Below.refl _ w0)
  go_cut [3] from 4 to 76 (fun t wc => t = .bool bg ∧ w0 = wc)
  case first =>
    rcases hcases with ⟨h1, rfl⟩ | ⟨h1, h2, rfl⟩ | ⟨h1, h2, h3⟩
    all_goals
      go_wp2_with fail
      go_meet
      case rel => exact ⟨rfl, rfl⟩
  case rest =>
    obtain ⟨rfl, rfl⟩ := hcut
    go_wp2_with fail
    refine wp_region_held_drew (S := (fun w' => Below w0.heap.size w0 w')) (by kernel_rfl) ?_ (fun hHeld => ?_)
    · try dsimp only
      exact (by repeat (first | exact Below.refl _ _ | assumption | refine Below.drew ?_ | refine Below.drewN ?_ _ | refine Below.allocT ?_ (Nat.le_refl _) _ | refine Below.setCell ?_ (by simp <;> omega) _ | refine Below.to ?_ (by assumption) (Nat.le_refl _)))
    refine wpAnyH_take (i := 0) (v := ?v1_0) rfl (by kernel_rfl) (by kernel_rfl) (by kernel_rfl) (fun _ _ _ h => h) (Or.inl ⟨by rfl, ?y1_0⟩) (by assumption) ?r1_0
    case' y1_0 => (intro w hSw; (try dsimp only at hSw); obtain ⟨hcS, hfS⟩ := bcell hSw; clear hSw; go_simp; try with_reducible rfl)
    try simp only [Act.put, List.getElem_toArray, List.getElem_cons_succ, List.getElem_cons_zero, List.setIfInBounds_toArray, List.set_cons_zero, List.set_cons_succ]
    refine wpAnyH_take (i := 2) (v := ?v1_2) rfl (by kernel_rfl) (by kernel_rfl) (by kernel_rfl) (fun _ _ _ h => h) (Or.inl ⟨by rfl, ?y1_2⟩) (by assumption) ?r1_2
    case' y1_2 => (intro w hSw; (try dsimp only at hSw); obtain ⟨hcS, hfS⟩ := bcell hSw; clear hSw; go_simp; try with_reducible rfl)
    try simp only [Act.put, List.getElem_toArray, List.getElem_cons_succ, List.getElem_cons_zero, List.setIfInBounds_toArray, List.set_cons_zero, List.set_cons_succ]
    refine wpAnyH_take (i := 3) (v := ?v1_3) rfl (by kernel_rfl) (by kernel_rfl) (by kernel_rfl) (fun _ _ _ h => h) (Or.inl ⟨by rfl, ?y1_3⟩) (by assumption) ?r1_3
    case' y1_3 => (intro w hSw; (try dsimp only at hSw); obtain ⟨hcS, hfS⟩ := bcell hSw; clear hSw; go_simp; try with_reducible rfl)
    try simp only [Act.put, List.getElem_toArray, List.getElem_cons_succ, List.getElem_cons_zero, List.setIfInBounds_toArray, List.set_cons_zero, List.set_cons_succ]
    refine wpAnyH_take (i := 5) (v := ?v1_5) rfl (by kernel_rfl) (by kernel_rfl) (by kernel_rfl) (fun _ _ _ h => h) (Or.inl ⟨by rfl, ?y1_5⟩) (by assumption) ?r1_5
    case' y1_5 => (intro w hSw; (try dsimp only at hSw); obtain ⟨hcS, hfS⟩ := bcell hSw; clear hSw; go_simp; try with_reducible rfl)
    try simp only [Act.put, List.getElem_toArray, List.getElem_cons_succ, List.getElem_cons_zero, List.setIfInBounds_toArray, List.set_cons_zero, List.set_cons_succ]
    refine wpAnyH_take (i := 6) (v := ?v1_6) rfl (by kernel_rfl) (by kernel_rfl) (by kernel_rfl) (fun _ _ _ h => h) (Or.inl ⟨by rfl, ?y1_6⟩) (by assumption) ?r1_6
    case' y1_6 => (intro w hSw; (try dsimp only at hSw); obtain ⟨hcS, hfS⟩ := bcell hSw; clear hSw; go_simp; try with_reducible rfl)
    try simp only [Act.put, List.getElem_toArray, List.getElem_cons_succ, List.getElem_cons_zero, List.setIfInBounds_toArray, List.set_cons_zero, List.set_cons_succ]
    refine wpAnyH_ready (rs := [1]) (by kernel_rfl) (by simp) ?_
    refine AllReadyH.cons rfl (fun K hK => ?_) AllReadyH.nil
    go_simp
    (first | (go_at_call 76; refine (many_any _ _).mono ?_; rw [HX.out]; rintro e w1 ⟨rfl, rfl⟩) | (go_at_call 77; refine (checkGauges_any _ gs _ (by unfold maxLen; omega) ((H.out.g.below (by repeat (first | exact Below.refl _ _ | assumption | refine Below.drew ?_ | refine Below.drewN ?_ _ | refine Below.allocT ?_ (Nat.le_refl _) _ | refine Below.setCell ?_ (by simp <;> omega) _ | refine Below.to ?_ (by assumption) (Nat.le_refl _)))).more (Below.size (by repeat (first | exact Below.refl _ _ | assumption | refine Below.drew ?_ | refine Below.drewN ?_ _ | refine Below.allocT ?_ (Nat.le_refl _) _ | refine Below.setCell ?_ (by simp <;> omega) _ | refine Below.to ?_ (by assumption) (Nat.le_refl _)))))).mono ?_; rw [HY.out]; rintro e w2 ⟨rfl, hB2⟩) | (go_at_call 84; refine (checkFuses_any _ fs _ (by unfold maxLen; omega) ((H.out.f.below (by repeat (first | exact Below.refl _ _ | assumption | refine Below.drew ?_ | refine Below.drewN ?_ _ | refine Below.allocT ?_ (Nat.le_refl _) _ | refine Below.setCell ?_ (by simp <;> omega) _ | refine Below.to ?_ (by assumption) (Nat.le_refl _)))).more (Below.size (by repeat (first | exact Below.refl _ _ | assumption | refine Below.drew ?_ | refine Below.drewN ?_ _ | refine Below.allocT ?_ (Nat.le_refl _) _ | refine Below.setCell ?_ (by simp <;> omega) _ | refine Below.to ?_ (by assumption) (Nat.le_refl _)))))).mono ?_; rw [HZ2.out]; rintro e w3 ⟨rfl, hB3⟩) | (go_at_call 58; refine (errors3v _ x y z u _ (by simp) (by simp) (by simp) HU.out).mono ?_; rintro e w4 ⟨rfl, rfl⟩))
    (try dsimp only)
    refine hK.out _ _ ?_ (fun hNext => ?_)
    · try dsimp only
      exact (by repeat (first | exact Below.refl _ _ | assumption | refine Below.drew ?_ | refine Below.drewN ?_ _ | refine Below.allocT ?_ (Nat.le_refl _) _ | refine Below.setCell ?_ (by simp <;> omega) _ | refine Below.to ?_ (by assumption) (Nat.le_refl _)))
    clear hK K hHeld
    have hHeld := hNext
    clear hNext
    (try dsimp only at hHeld)
    try simp only [Act.put, List.getElem_toArray, List.getElem_cons_succ, List.getElem_cons_zero, List.setIfInBounds_toArray, List.set_cons_zero, List.set_cons_succ]
    refine wpAnyH_ready (rs := [4]) (by kernel_rfl) (by simp) ?_
    refine AllReadyH.cons rfl (fun K hK => ?_) AllReadyH.nil
    go_simp
    (first | (go_at_call 76; refine (many_any _ _).mono ?_; rw [HX.out]; rintro e w1 ⟨rfl, rfl⟩) | (go_at_call 77; refine (checkGauges_any _ gs _ (by unfold maxLen; omega) ((H.out.g.below (by repeat (first | exact Below.refl _ _ | assumption | refine Below.drew ?_ | refine Below.drewN ?_ _ | refine Below.allocT ?_ (Nat.le_refl _) _ | refine Below.setCell ?_ (by simp <;> omega) _ | refine Below.to ?_ (by assumption) (Nat.le_refl _)))).more (Below.size (by repeat (first | exact Below.refl _ _ | assumption | refine Below.drew ?_ | refine Below.drewN ?_ _ | refine Below.allocT ?_ (Nat.le_refl _) _ | refine Below.setCell ?_ (by simp <;> omega) _ | refine Below.to ?_ (by assumption) (Nat.le_refl _)))))).mono ?_; rw [HY.out]; rintro e w2 ⟨rfl, hB2⟩) | (go_at_call 84; refine (checkFuses_any _ fs _ (by unfold maxLen; omega) ((H.out.f.below (by repeat (first | exact Below.refl _ _ | assumption | refine Below.drew ?_ | refine Below.drewN ?_ _ | refine Below.allocT ?_ (Nat.le_refl _) _ | refine Below.setCell ?_ (by simp <;> omega) _ | refine Below.to ?_ (by assumption) (Nat.le_refl _)))).more (Below.size (by repeat (first | exact Below.refl _ _ | assumption | refine Below.drew ?_ | refine Below.drewN ?_ _ | refine Below.allocT ?_ (Nat.le_refl _) _ | refine Below.setCell ?_ (by simp <;> omega) _ | refine Below.to ?_ (by assumption) (Nat.le_refl _)))))).mono ?_; rw [HZ2.out]; rintro e w3 ⟨rfl, hB3⟩) | (go_at_call 58; refine (errors3v _ x y z u _ (by simp) (by simp) (by simp) HU.out).mono ?_; rintro e w4 ⟨rfl, rfl⟩))
    (try dsimp only)
    refine hK.out _ _ ?_ (fun hNext => ?_)
    · try dsimp only
      exact (by repeat (first | exact Below.refl _ _ | assumption | refine Below.drew ?_ | refine Below.drewN ?_ _ | refine Below.allocT ?_ (Nat.le_refl _) _ | refine Below.setCell ?_ (by simp <;> omega) _ | refine Below.to ?_ (by assumption) (Nat.le_refl _)))
    clear hK K hHeld
    have hHeld := hNext
    clear hNext
    (try dsimp only at hHeld)
    try simp only [Act.put, List.getElem_toArray, List.getElem_cons_succ, List.getElem_cons_zero, List.setIfInBounds_toArray, List.set_cons_zero, List.set_cons_succ]
    refine wpAnyH_ready (rs := [7]) (by kernel_rfl) (by simp) ?_
    refine AllReadyH.cons rfl (fun K hK => ?_) AllReadyH.nil
    go_simp
    (first | (go_at_call 76; refine (many_any _ _).mono ?_; rw [HX.out]; rintro e w1 ⟨rfl, rfl⟩) | (go_at_call 77; refine (checkGauges_any _ gs _ (by unfold maxLen; omega) ((H.out.g.below (by repeat (first | exact Below.refl _ _ | assumption | refine Below.drew ?_ | refine Below.drewN ?_ _ | refine Below.allocT ?_ (Nat.le_refl _) _ | refine Below.setCell ?_ (by simp <;> omega) _ | refine Below.to ?_ (by assumption) (Nat.le_refl _)))).more (Below.size (by repeat (first | exact Below.refl _ _ | assumption | refine Below.drew ?_ | refine Below.drewN ?_ _ | refine Below.allocT ?_ (Nat.le_refl _) _ | refine Below.setCell ?_ (by simp <;> omega) _ | refine Below.to ?_ (by assumption) (Nat.le_refl _)))))).mono ?_; rw [HY.out]; rintro e w2 ⟨rfl, hB2⟩) | (go_at_call 84; refine (checkFuses_any _ fs _ (by unfold maxLen; omega) ((H.out.f.below (by repeat (first | exact Below.refl _ _ | assumption | refine Below.drew ?_ | refine Below.drewN ?_ _ | refine Below.allocT ?_ (Nat.le_refl _) _ | refine Below.setCell ?_ (by simp <;> omega) _ | refine Below.to ?_ (by assumption) (Nat.le_refl _)))).more (Below.size (by repeat (first | exact Below.refl _ _ | assumption | refine Below.drew ?_ | refine Below.drewN ?_ _ | refine Below.allocT ?_ (Nat.le_refl _) _ | refine Below.setCell ?_ (by simp <;> omega) _ | refine Below.to ?_ (by assumption) (Nat.le_refl _)))))).mono ?_; rw [HZ2.out]; rintro e w3 ⟨rfl, hB3⟩) | (go_at_call 58; refine (errors3v _ x y z u _ (by simp) (by simp) (by simp) HU.out).mono ?_; rintro e w4 ⟨rfl, rfl⟩))
    (try dsimp only)
    refine hK.out _ _ ?_ (fun hNext => ?_)
    · try dsimp only
      exact (by repeat (first | exact Below.refl _ _ | assumption | refine Below.drew ?_ | refine Below.drewN ?_ _ | refine Below.allocT ?_ (Nat.le_refl _) _ | refine Below.setCell ?_ (by simp <;> omega) _ | refine Below.to ?_ (by assumption) (Nat.le_refl _)))
    clear hK K hHeld
    have hHeld := hNext
    clear hNext
    (try dsimp only at hHeld)
    try simp only [Act.put, List.getElem_toArray, List.getElem_cons_succ, List.getElem_cons_zero, List.setIfInBounds_toArray, List.set_cons_zero, List.set_cons_succ]
    refine wpAnyH_ready (rs := [8]) (by kernel_rfl) (by simp) ?_
    refine AllReadyH.cons rfl (fun K hK => ?_) AllReadyH.nil
    go_simp
    refine hK.out _ _ ?_ (fun hNext => ?_)
    · try dsimp only
      exact (by repeat (first | exact Below.refl _ _ | assumption | refine Below.drew ?_ | refine Below.drewN ?_ _ | refine Below.allocT ?_ (Nat.le_refl _) _ | refine Below.setCell ?_ (by simp <;> omega) _ | refine Below.to ?_ (by assumption) (Nat.le_refl _)))
    clear hK K hHeld
    have hHeld := hNext
    clear hNext
    (try dsimp only at hHeld)
    try simp only [Act.put, List.getElem_toArray, List.getElem_cons_succ, List.getElem_cons_zero, List.setIfInBounds_toArray, List.set_cons_zero, List.set_cons_succ]
    refine wpAnyH_ready (rs := [9]) (by kernel_rfl) (by simp) ?_
    refine AllReadyH.cons rfl (fun K hK => ?_) AllReadyH.nil
    go_simp
    (first | (go_at_call 76; refine (many_any _ _).mono ?_; rw [HX.out]; rintro e w1 ⟨rfl, rfl⟩) | (go_at_call 77; refine (checkGauges_any _ gs _ (by unfold maxLen; omega) ((H.out.g.below (by repeat (first | exact Below.refl _ _ | assumption | refine Below.drew ?_ | refine Below.drewN ?_ _ | refine Below.allocT ?_ (Nat.le_refl _) _ | refine Below.setCell ?_ (by simp <;> omega) _ | refine Below.to ?_ (by assumption) (Nat.le_refl _)))).more (Below.size (by repeat (first | exact Below.refl _ _ | assumption | refine Below.drew ?_ | refine Below.drewN ?_ _ | refine Below.allocT ?_ (Nat.le_refl _) _ | refine Below.setCell ?_ (by simp <;> omega) _ | refine Below.to ?_ (by assumption) (Nat.le_refl _)))))).mono ?_; rw [HY.out]; rintro e w2 ⟨rfl, hB2⟩) | (go_at_call 84; refine (checkFuses_any _ fs _ (by unfold maxLen; omega) ((H.out.f.below (by repeat (first | exact Below.refl _ _ | assumption | refine Below.drew ?_ | refine Below.drewN ?_ _ | refine Below.allocT ?_ (Nat.le_refl _) _ | refine Below.setCell ?_ (by simp <;> omega) _ | refine Below.to ?_ (by assumption) (Nat.le_refl _)))).more (Below.size (by repeat (first | exact Below.refl _ _ | assumption | refine Below.drew ?_ | refine Below.drewN ?_ _ | refine Below.allocT ?_ (Nat.le_refl _) _ | refine Below.setCell ?_ (by simp <;> omega) _ | refine Below.to ?_ (by assumption) (Nat.le_refl _)))))).mono ?_; rw [HZ2.out]; rintro e w3 ⟨rfl, hB3⟩) | (go_at_call 58; refine (errors3v _ x y z u _ (by simp) (by simp) (by simp) HU.out).mono ?_; rintro e w4 ⟨rfl, rfl⟩))
    (try dsimp only)
    refine hK.out _ _ ?_ (fun hNext => ?_)
    · try dsimp only
      exact (by repeat (first | exact Below.refl _ _ | assumption | refine Below.drew ?_ | refine Below.drewN ?_ _ | refine Below.allocT ?_ (Nat.le_refl _) _ | refine Below.setCell ?_ (by simp <;> omega) _ | refine Below.to ?_ (by assumption) (Nat.le_refl _)))
    clear hK K hHeld
    have hHeld := hNext
    clear hNext
    (try dsimp only at hHeld)
    try simp only [Act.put, List.getElem_toArray, List.getElem_cons_succ, List.getElem_cons_zero, List.setIfInBounds_toArray, List.set_cons_zero, List.set_cons_succ]
    refine wpAnyH_take (i := 10) (v := ?v1_10) rfl (by kernel_rfl) (by kernel_rfl) (by kernel_rfl) (fun _ _ _ h => h) (Or.inl ⟨by rfl, ?y1_10⟩) (by assumption) ?r1_10
    case' y1_10 => (intro w hSw; (try dsimp only at hSw); obtain ⟨hcS, hfS⟩ := bcell hSw; clear hSw; go_simp; try with_reducible rfl)
    try simp only [Act.put, List.getElem_toArray, List.getElem_cons_succ, List.getElem_cons_zero, List.setIfInBounds_toArray, List.set_cons_zero, List.set_cons_succ]
    refine wpAnyH_done (by kernel_rfl) ?_ _
    generalize hwh : World.alloc _ _ = wh at hHeld ⊢
    clear hwh
    clear k0 k1 k2 hB2 hB3
    have HB0 : Hid (Below w0.heap.size w0 wh) := hHeld
    have HBw := hide hB0
    have HWI := hide hwi
    clear hHeld hB0 hwi hb0
    by_cases hu0 : u = 0
    · obtain ⟨he0, ht, hn2, he⟩ := HE0.out hu0
      have HE := hide he
      clear he0 ht hn2 he
      have hu1 : (u != 0) = false := by simp [hu0]
      clear hu0
      obtain ⟨k0, k1, k2, _⟩ := wi3 HWI.out HB0.out
      go_wp2_with fail
      clear k0 k1 k2
      go_loopw [5, 6, 39] (fun _ _ i wr => ∃ k : Nat, k ≤ es.length ∧ i = .int .i64 k ∧ Hid (∀ j, j < k → feOk gs fs es j = true) ∧ Hid (Below wh.heap.size wh wr)) (fun _ _ i _ => es.length - (intOf i).toNat)
      case atStart => exact ⟨0, Nat.zero_le _, rfl, fun j hj => by omega, Below.refl _ _⟩
      case round =>
        obtain ⟨k, hk, rfl, hz, hB⟩ := hrel
        have HBr : Hid (Below w0.heap.size w0 wr) := Below.to HB0.out hB.out (Nat.le_refl _)
        have HBq : Hid (Below w.heap.size w wr) := Below.to HBw.out HBr.out (Nat.le_refl _)
        by_cases hlt : k < es.length
        · obtain ⟨f, C, cp, HZ, hA1, hbw, h0, h1, h2, h3, h4, h5, h6, hy⟩ := feAtB HBq.out HA.out HC.out HCY.out hlt
          subst hA1
          have HN20 : Hid (f.cs.length ≤ 20) := by show _; have := HZ_.out.c k hlt; rw [HZ.out] at this; exact this
          obtain ⟨b1, hb1⟩ : ∃ x, fromB f.par (-1) ((k : Int) - 1) = x := ⟨_, rfl⟩
          obtain ⟨b2, hb2⟩ : ∃ x, fromB f.gauge 0 ((gs.length : Int) - 1) = x := ⟨_, rfl⟩
          obtain ⟨b3, hb3⟩ : ∃ x, fromB f.fuse 0 ((fs.length : Int) - 1) = x := ⟨_, rfl⟩
          obtain ⟨b4, hb4⟩ : ∃ x, needOk f.n f.cs = x := ⟨_, rfl⟩
          have HS : Hid (feOk gs fs es k = (b1 && b2 && b3 && b4)) := by show _ = _; unfold feOk; rw [HZ.out, hb1, hb2, hb3, hb4]
          have HB1 := hide hb1
          have HB2 := hide hb2
          have HB3 := hide hb3
          have HB4 : Hid (needErr f.n f.cs = if b4 then 0 else 71) := by show _ = _; rw [← hb4]; rfl
          clear hb1 hb2 hb3 hb4
          go_upto_region 8 with (fail)
          generalize hw5 : World.alloc _ _ = w5
          obtain ⟨hb5, hB5, hs5⟩ := alloc1 hw5
          clear hw5 h0 h1 h2 h3 h4 h5 h6
          have HB5 := hide hB5
          have HBs : Hid (Below w0.heap.size w0 w5) := Below.to HBr.out hB5 (Nat.le_refl _)
          obtain ⟨k0, k1, k2, _⟩ := wi3 HWI.out HBs.out
          have m0 := cellOf hb5 0
          have m1 := cellOf hb5 1
          have m2 := cellOf hb5 2
          have m3 := cellOf hb5 3
          have m4 := cellOf hb5 4
          have m5 := cellOf hb5 5
          have m6 := cellOf hb5 6
          have HCY5 : Hid (Cyc w5 w5.heap.size (.slice C f.cs.length cp) f.cs) := Sl.more (Sl.below hy.out ((show Below w.heap.size wr w5 from hB5.mono HBq.out.size))) (by have := HBq.out.size; have := hB5.size; omega)
          clear hb5 hB5 hs5
          cases b1
          · go_wp2_with (go_at_call 49; refine (within_any _ _ _ _).mono ?_; (first | rw [HB1.out] | rw [HB2.out] | rw [HB3.out]); rintro e w' ⟨rfl, rfl⟩)
            go_ret
            exact ⟨ret_int (by rw [HE.out, fesB_at hlt (by rw [HS.out]; rfl)]; rfl), Below.to HBq.out HB5.out (Nat.le_refl _)⟩
          · cases b2
            · go_wp2_with (go_at_call 49; refine (within_any _ _ _ _).mono ?_; (first | rw [HB1.out] | rw [HB2.out] | rw [HB3.out]); rintro e w' ⟨rfl, rfl⟩)
              go_ret
              exact ⟨ret_int (by rw [HE.out, fesB_at hlt (by rw [HS.out]; rfl)]; rfl), Below.to HBq.out HB5.out (Nat.le_refl _)⟩
            · cases b3
              · go_wp2_with (go_at_call 49; refine (within_any _ _ _ _).mono ?_; (first | rw [HB1.out] | rw [HB2.out] | rw [HB3.out]); rintro e w' ⟨rfl, rfl⟩)
                go_ret
                exact ⟨ret_int (by rw [HE.out, fesB_at hlt (by rw [HS.out]; rfl)]; rfl), Below.to HBq.out HB5.out (Nat.le_refl _)⟩
              · cases b4
                · go_wp2_with (first | (go_at_call 49; refine (within_any _ _ _ _).mono ?_; (first | rw [HB1.out] | rw [HB2.out] | rw [HB3.out]); rintro e w' ⟨rfl, rfl⟩) | (go_at_call 72; refine (checkNeed_any f.n _ f.cs _ HN20.out HCY5.out).mono ?_; rw [HB4.out]; rintro e w6 ⟨rfl, hB6⟩))
                  go_ret
                  exact ⟨ret_int (by rw [HE.out, fesB_at hlt (by rw [HS.out]; rfl)]; rfl), Below.to (Below.to HBq.out HB5.out (Nat.le_refl _)) hB6 (Nat.le_refl _)⟩
                · go_wp2_with (first | (go_at_call 49; refine (within_any _ _ _ _).mono ?_; (first | rw [HB1.out] | rw [HB2.out] | rw [HB3.out]); rintro e w' ⟨rfl, rfl⟩) | (go_at_call 72; refine (checkNeed_any f.n _ f.cs _ HN20.out HCY5.out).mono ?_; rw [HB4.out]; rintro e w6 ⟨rfl, hB6⟩))
                  go_roundw
                  case rel => exact ⟨k + 1, by omega, by go_num, fun j hj => by
                      rcases Nat.lt_or_ge j k with h | h
                      · exact hz.out j h
                      · rw [show j = k from by omega, HS.out]; rfl, Below.to (Below.to hB.out HB5.out (Nat.le_refl _)) hB6 (Nat.le_refl _)⟩
                  case measure => simp [intOf]; omega
        · go_wp2
          go_ret
          exact ⟨ret_int (by rw [HE.out, fesB_all (fun j hj => hz.out j (by omega))]; rfl), HBq.out⟩
    · have HE := hide (HE1.out hu0)
      have hu1 : (u != 0) = true := by simp [hu0]
      clear hu0
      go_wp2_with fail
      go_ret
      exact ⟨ret_int HE.out.symm, Below.to HBw.out HB0.out (Nat.le_refl _)⟩
end Go.Proofs.Ytejjjijaojkohaa

/- Pick: the program's walk. -/
import Derived.Test.YtejjjijaojkohaaRows
import Derived.Test.YtejjjijaojkohaaW30
import Derived.Test.YtejjjijaojkohaaW31
import Derived.Test.YtejjjijaojkohaaW18
import Derived.Test.YtejjjijaojkohaaW22
import Derived.Deep.CutRange
import Derived.Deep.RegionHeld3
namespace Go.Proofs.Ytejjjijaojkohaa
open Go.RowKit
set_option linter.unusedVariables false
set_option linter.unusedSimpArgs false

noncomputable def pickU (g : Ga) (n : Ne) (cs : List Cu) (u : Fu) : Bool := holdsB u cs && decide (leastI (ungB u g n.amb) < 0)
noncomputable def pickK (fs : List Fu) (n : Ne) (cs : List Cu) (g : Ga) : Int := idxI (pickU g n cs) fs
noncomputable def pickA (fs : List Fu) (n : Ne) (cs : List Cu) (g : Ga) : Bool := fitsB g n cs && decide (0 ≤ pickK fs n cs g)
noncomputable def pickG (gs : List Ga) (fs : List Fu) (n : Ne) (cs : List Cu) : Int := idxI (pickA fs n cs) gs
def pickB (gs : List Ga) (fs : List Fu) : Bool := decide (20 < gs.length) || decide (20 < fs.length)
noncomputable def pickErr (gs : List Ga) (fs : List Fu) (n : Ne) (cs : List Cu) : Int :=
  if pickB gs fs then 2 else if tableB gs then if fusB fs then if needOk n cs then if pickG gs fs n cs < 0 then 3 else 0 else 71 else 72 else 70
noncomputable def pickV (gs : List Ga) (fs : List Fu) (n : Ne) (cs : List Cu) : Int := if pickErr gs fs n cs = 0 then pickG gs fs n cs else 0
noncomputable def pickW (gs : List Ga) (fs : List Fu) (n : Ne) (cs : List Cu) : Int := if pickErr gs fs n cs = 0 then pickK fs n cs (gs.getD (pickG gs fs n cs).toNat Ga.z) else 0
structure PickOk (gs : List Ga) (fs : List Fu) (n : Ne) (cs : List Cu) : Prop where
  g20 : gs.length ≤ 20
  f20 : fs.length ≤ 20
  tab : tableB gs = true
  fus : fusB fs = true
  need : NeOk n cs
theorem pick_none {gs : List Ga} {fs : List Fu} {n : Ne} {cs : List Cu} (h : PickOk gs fs n cs) (hp : pickG gs fs n cs < 0) : pickErr gs fs n cs = 3 ∧ pickV gs fs n cs = 0 ∧ pickW gs fs n cs = 0 := by
  have hb : pickB gs fs = false := by
    simp only [pickB, Bool.or_eq_false_iff, decide_eq_false_iff_not]
    exact ⟨by have := h.g20; omega, by have := h.f20; omega⟩
  have he : pickErr gs fs n cs = 3 := by unfold pickErr; rw [hb, h.tab, h.fus, needOk_iff.2 h.need]; simp [hp]
  exact ⟨he, by unfold pickV; rw [he]; rfl, by unfold pickW; rw [he]; rfl⟩
theorem pick_some {gs : List Ga} {fs : List Fu} {n : Ne} {cs : List Cu} (h : PickOk gs fs n cs) {k : Nat} (hp : pickG gs fs n cs = k) : pickErr gs fs n cs = 0 ∧ pickV gs fs n cs = k ∧ pickW gs fs n cs = pickK fs n cs (gs.getD k Ga.z) := by
  have hb : pickB gs fs = false := by
    simp only [pickB, Bool.or_eq_false_iff, decide_eq_false_iff_not]
    exact ⟨by have := h.g20; omega, by have := h.f20; omega⟩
  have he : pickErr gs fs n cs = 0 := by unfold pickErr; rw [hb, h.tab, h.fus, needOk_iff.2 h.need, hp]; simp
  exact ⟨he, by unfold pickV; rw [he, hp]; rfl, by unfold pickW; rw [he, hp]; simp⟩

theorem pickF_any (g : Ga) (u : Fu) (n : Ne) (nb gb : Nat) (v : Value) (cs : List Cu) (w : World) (hu : u.Ok) (hg : g.Ok) (hk : NeOk n cs) (hN : NeedAt w nb v n) (hG : GaugeAt w gb g) (h : Cyc w w.heap.size v cs) :
    Calls Try.prog 86 #[.agg #[.int .i64 u.rating, .int .i64 u.melt], .pointer (some ⟨nb, 0, none⟩), .pointer (some ⟨gb, 0, none⟩)] w fun e w' => e = .returned (.bool (pickU g n cs u)) ∧ Below w.heap.size w w' := by
  have hl := box_lt hN
  have hl2 := box_lt hG
  have H := hide h
  obtain ⟨A0, cap0, rfl⟩ := h.form
  clear h
  have HN := hide hN
  have HG2 := hide hG
  clear hN hG
  have HK := hide hk
  have HG := hide hg
  have HU := hide hu
  clear hk hg hu
  obtain ⟨d1, hd1⟩ : ∃ x, holdsB u cs = x := ⟨_, rfl⟩
  obtain ⟨d2, hd2⟩ : ∃ x, leastI (ungB u g n.amb) = x := ⟨_, rfl⟩
  have HR : Hid (pickU g n cs u = (d1 && decide (d2 < 0))) := by show _ = _; unfold pickU; rw [hd1, hd2]
  have HD1 := hide hd1
  have HD2 := hide hd2
  clear hd1 hd2
  go_enter Try.func86, Try.ntmps86
  go_upto_region 1 with (fail)
  generalize hw0 : World.alloc _ _ = w0
  obtain ⟨hb0, hB0, hs0⟩ := alloc1 hw0
  clear hw0
  have HU0 : Hid (FuseAt w0 w.heap.size u) := hb0
  have HB0 := hide hB0
  have HN0 := hide (box_to HN.out hB0)
  have HG0 := hide (box_to HG2.out hB0)
  clear hb0 hB0 hs0
  have u0 := cellOf HU0.out 0
  have u1 := cellOf HU0.out 1
  have k0 := cellOf HN0.out 0
  have k3 := cellOf HN0.out 3
  have g0 := cellOf HG0.out 0
  have g1 := cellOf HG0.out 1
  have g2 := cellOf HG0.out 2
  have g3 := cellOf HG0.out 3
  have g4 := cellOf HG0.out 4
  go_wp2_with fail
  refine (holds_any u _ cs _ HU.out HK.out.cyc (H.out.up HB0.out)).mono ?_
  rw [HD1.out]
  rintro e w1 ⟨rfl, hB1⟩
  clear u0 u1 k0 k3 g0 g1 g2 g3 g4
  have HB1 := hide hB1
  clear hB1
  cases d1 with
  | false =>
    go_wp2_with fail
    go_ret
    exact ⟨ret_bool (by rw [HR.out]; rfl), Below.to HB0.out HB1.out (Nat.le_refl _)⟩
  | true =>
    have hU1 := box_to HU0.out HB1.out
    have hN1 := box_to HN0.out HB1.out
    have hG1 := box_to HG0.out HB1.out
    have u0 := cellOf hU1 0
    have u1 := cellOf hU1 1
    have k0 := cellOf hN1 0
    have k3 := cellOf hN1 3
    have g0 := cellOf hG1 0
    have g1 := cellOf hG1 1
    have g2 := cellOf hG1 2
    have g3 := cellOf hG1 3
    have g4 := cellOf hG1 4
    clear hU1 hN1 hG1
    go_wp2_with fail
    refine (unguarded_any u g n.amb _ HU.out HG.out HK.out.amb0 HK.out.amb1).mono ?_
    rw [HD2.out]
    rintro e w2 ⟨rfl, hB2⟩
    clear u0 u1 k0 k3 g0 g1 g2 g3 g4
    go_wp2_with fail
    go_ret
    exact ⟨ret_bool (by rw [HR.out]; rfl), Below.to (Below.to HB0.out HB1.out (Nat.le_refl _)) hB2 (Nat.le_refl _)⟩


set_option maxRecDepth 100000 in
theorem index_pick2 (p : Fu → Bool) (c0 c1 : Value) (v : Value) (gs : List Fu) (w : World) (hm : gs.length ≤ maxLen) (h : Fus w w.heap.size v gs)
    (hf : ∀ (i : Nat) (g : Fu) (W : World), i < gs.length → gs.getD i Fu.z = g → Below w.heap.size w W → Calls Try.prog 86 #[.agg #[.int .i64 g.rating, .int .i64 g.melt], c0, c1] W fun e w' => e = .returned (.bool (p g)) ∧ Below W.heap.size W w') :
    Calls Try.prog 85 #[v, .func (.func 86) #[] #[c0, c1]] w fun e w' => e = .returned (.int .i64 (idxI p gs)) ∧ Below w.heap.size w w' := by
  unfold maxLen at hm
  obtain ⟨A, b, off, cap, rfl, hnc, hA, hc⟩ := h
  have HC := hide hc; clear hc
  have HA := hide hA; clear hA
  have HF := hide hf; clear hf
  go_enter Try.func85, Try.ntmps85
  go_wp2
  go_loopw [5, 8] (fun _ i wr => ∃ k : Nat, k ≤ gs.length ∧ i = .int .i64 k ∧ Hid (∀ j, j < k → p (gs.getD j Fu.z) = false) ∧ Below w.heap.size w wr) (fun _ i _ => gs.length - (intOf i).toNat)
  case atStart => exact ⟨0, Nat.zero_le _, rfl, fun j hj => by omega, Below.refl _ _⟩
  case round =>
    obtain ⟨k, hk, rfl, hz, hB⟩ := hrel
    by_cases hlt : k < gs.length
    · obtain ⟨g, HZ, hA1, hbw, h0, h1⟩ := fuAtB hB HA.out HC.out hlt
      subst hA1
      by_cases hp : p g = true
      · have HP := hide hp
        clear hp
        go_wp2_with (go_at_call 86; refine (HF.out k g _ hlt HZ.out hB).mono ?_; rw [HP.out]; rintro e w1 ⟨rfl, hB1⟩)
        go_ret
        exact ⟨ret_int (idxI_at p Fu.z gs k hz.out hlt (by rw [HZ.out]; exact HP.out)).symm, (by repeat (first | exact Below.refl _ _ | assumption | refine Below.drew ?_ | refine Below.drewN ?_ _ | refine Below.allocT ?_ (Nat.le_refl _) _ | refine Below.setCell ?_ (by simp <;> omega) _ | refine Below.to ?_ (by assumption) (Nat.le_refl _)))⟩
      · have hp' : p g = false := by simpa using hp
        have HP := hide hp'
        clear hp hp'
        go_wp2_with (go_at_call 86; refine (HF.out k g _ hlt HZ.out hB).mono ?_; rw [HP.out]; rintro e w1 ⟨rfl, hB1⟩)
        go_roundw
        case rel => exact ⟨k + 1, by omega, by go_num, fun j hj => by
            rcases Nat.lt_or_ge j k with h | h
            · exact hz.out j h
            · rw [show j = k from by omega, HZ.out]; exact HP.out, (by repeat (first | exact Below.refl _ _ | assumption | refine Below.drew ?_ | refine Below.drewN ?_ _ | refine Below.allocT ?_ (Nat.le_refl _) _ | refine Below.setCell ?_ (by simp <;> omega) _ | refine Below.to ?_ (by assumption) (Nat.le_refl _)))⟩
        case measure => simp [intOf]; omega
    · go_wp2
      go_ret
      exact ⟨ret_int (idxI_none p Fu.z gs (fun j hj => hz.out j (by omega))).symm, (by repeat (first | exact Below.refl _ _ | assumption | refine Below.drew ?_ | refine Below.drewN ?_ _ | refine Below.allocT ?_ (Nat.le_refl _) _ | refine Below.setCell ?_ (by simp <;> omega) _ | refine Below.to ?_ (by assumption) (Nat.le_refl _)))⟩

set_option maxRecDepth 100000 in
set_option maxHeartbeats 2000000 in
theorem Pick_any (gs : List Ga) (fs : List Fu) (n : Ne) (gv fv v : Value) (cs : List Cu) (w : World) (hg30 : gs.length ≤ 30) (hf30 : fs.length ≤ 30) (hn : cs.length ≤ 20) (hG : Gas w w.heap.size gv gs) (hF : Fus w w.heap.size fv fs) (h : Cyc w w.heap.size v cs) :
    Calls Try.prog 43 #[gv, fv, .agg #[v, .int .i64 n.len, .int .i64 n.drop, .int .i64 n.amb]] w fun e w' => e = .returned (.tuple #[.int .i64 (pickV gs fs n cs), .int .i64 (pickW gs fs n cs), .int .i64 (pickErr gs fs n cs)]) ∧ Below w.heap.size w w' := by
  have H := hide h
  obtain ⟨A0, cap0, rfl⟩ := h.form
  have HFS := hide hF
  obtain ⟨A2, cap2, rfl⟩ := Sl.form hF
  have HGS := hide hG
  obtain ⟨A1, b, off, cap1, rfl, hnc, hA, hc⟩ := hG
  have HC := hide hc
  have HA := hide hA
  clear h hF hc hA
  obtain ⟨bg, hbg⟩ : ∃ d, pickB gs fs = d := ⟨_, rfl⟩
  obtain ⟨x, hx⟩ : ∃ x : Int, (if bg then (2 : Int) else 0) = x := ⟨_, rfl⟩
  obtain ⟨y, hy⟩ : ∃ y, gasErr gs = y := ⟨_, rfl⟩
  obtain ⟨z, hz⟩ : ∃ z, fusErr fs = z := ⟨_, rfl⟩
  obtain ⟨t, ht⟩ : ∃ z, needErr n cs = z := ⟨_, rfl⟩
  obtain ⟨u, hu⟩ : ∃ u : Int, (if x = 0 then if y = 0 then if z = 0 then t else z else y else x) = u := ⟨_, rfl⟩
  have hE0 : u = 0 → PickOk gs fs n cs := by
    intro h0
    rw [← hu, ← hx, ← hy, ← hz, ← ht, ← hbg] at h0
    unfold gasErr fusErr needErr at h0
    cases hb : pickB gs fs
    · cases h1 : tableB gs <;> cases h2 : fusB fs <;> cases h3 : needOk n cs <;> simp [hb, h1, h2, h3] at h0
      simp only [pickB, Bool.or_eq_false_iff, decide_eq_false_iff_not] at hb
      exact ⟨by omega, by omega, h1, h2, needOk_iff.1 h3⟩
    · simp [hb] at h0
  have hE1 : u ≠ 0 → pickErr gs fs n cs = u ∧ pickV gs fs n cs = 0 ∧ pickW gs fs n cs = 0 := by
    intro h0
    have he : pickErr gs fs n cs = u := by
      rw [← hu, ← hx, ← hy, ← hz, ← ht, ← hbg] at h0 ⊢
      unfold pickErr
      unfold gasErr fusErr needErr at h0 ⊢
      cases hb : pickB gs fs <;> cases h1 : tableB gs <;> cases h2 : fusB fs <;> cases h3 : needOk n cs <;> simp [hb, h1, h2, h3] at h0 ⊢
    exact ⟨he, by unfold pickV; rw [he, if_neg h0], by unfold pickW; rw [he, if_neg h0]⟩
  have HE0 := hide hE0
  have HE1 := hide hE1
  have HX := hide hx
  have HY := hide hy
  have HZ := hide hz
  have HT := hide ht
  have HU := hide hu
  have hcases : (decide ((20 : Int) < (gs.length : Int)) = true ∧ bg = true) ∨ (decide ((20 : Int) < (gs.length : Int)) = false ∧ decide ((20 : Int) < (fs.length : Int)) = bg) := by
    rw [← hbg]
    unfold pickB
    by_cases h1 : 20 < gs.length
    · exact .inl ⟨by simp; omega, by simp [h1]⟩
    · refine .inr ⟨by simp; omega, ?_⟩
      rw [show decide (20 < gs.length) = false by simpa using h1, Bool.false_or, decide_eq_decide]
      omega
  clear hx hy hz ht hu hE0 hE1 hbg
  go_enter Try.func43, Try.ntmps43
  go_upto_region 1 with (fail)
  generalize hw0 : World.alloc _ _ = w0
  obtain ⟨hb0, hB0, hs0⟩ := alloc1 hw0
  clear hw0
  have HN0 : Hid (NeedAt w0 w.heap.size (.slice A0 cs.length cap0) n) := hb0
  have k0 := cellOf hb0 0
  have k1 := cellOf hb0 1
  have k2 := cellOf hb0 2
  have k3 := cellOf hb0 3
  have hl0 : w.heap.size < w0.heap.size := by omega
  have HB0 := hide hB0
  clear hb0 hs0
  go_cut [9] from 14 to 53 (fun t wc => t = .bool bg ∧ w0 = wc)
  case first =>
    rcases hcases with ⟨h1, rfl⟩ | ⟨h1, h3⟩
    all_goals
      go_wp2_with fail
      go_meet
      case rel => exact ⟨rfl, rfl⟩
  case rest =>
    obtain ⟨rfl, rfl⟩ := hcut
    go_wp2_with fail
    refine wp_region_held_drew (S := (fun w' => Below w0.heap.size w0 w')) (by kernel_rfl) ?_ (fun hHeld => ?_)
    · try dsimp only
      exact (by repeat (first | exact Below.refl _ _ | assumption | refine Below.drew ?_ | refine Below.drewN ?_ _ | refine Below.allocT ?_ (Nat.le_refl _) _ | refine Below.setCell ?_ (by simp <;> omega) _ | refine Below.to ?_ (by assumption) (Nat.le_refl _)))
    refine wpAnyH_take (i := 0) (v := ?v1_0) rfl (by kernel_rfl) (by kernel_rfl) (by kernel_rfl) (fun _ _ _ h => h) (Or.inl ⟨by rfl, ?y1_0⟩) (by assumption) ?r1_0
    case' y1_0 => (intro w hSw; (try dsimp only at hSw); obtain ⟨hcS, hfS⟩ := bcell hSw; clear hSw; go_simp; try with_reducible rfl)
    try simp only [Act.put, List.getElem_toArray, List.getElem_cons_succ, List.getElem_cons_zero, List.setIfInBounds_toArray, List.set_cons_zero, List.set_cons_succ]
    refine wpAnyH_take (i := 2) (v := ?v1_2) rfl (by kernel_rfl) (by kernel_rfl) (by kernel_rfl) (fun _ _ _ h => h) (Or.inl ⟨by rfl, ?y1_2⟩) (by assumption) ?r1_2
    case' y1_2 => (intro w hSw; (try dsimp only at hSw); obtain ⟨hcS, hfS⟩ := bcell hSw; clear hSw; go_simp; try with_reducible rfl)
    try simp only [Act.put, List.getElem_toArray, List.getElem_cons_succ, List.getElem_cons_zero, List.setIfInBounds_toArray, List.set_cons_zero, List.set_cons_succ]
    refine wpAnyH_take (i := 4) (v := ?v1_4) rfl (by kernel_rfl) (by kernel_rfl) (by kernel_rfl) (fun _ _ _ h => h) (Or.inl ⟨by rfl, ?y1_4⟩) (by assumption) ?r1_4
    case' y1_4 => (intro w hSw; (try dsimp only at hSw); obtain ⟨hcS, hfS⟩ := bcell hSw; clear hSw; go_simp; try with_reducible rfl)
    try simp only [Act.put, List.getElem_toArray, List.getElem_cons_succ, List.getElem_cons_zero, List.setIfInBounds_toArray, List.set_cons_zero, List.set_cons_succ]
    refine wpAnyH_take (i := 6) (v := ?v1_6) rfl (by kernel_rfl) (by kernel_rfl) (by kernel_rfl) (fun _ _ _ h => h) (Or.inl ⟨by rfl, ?y1_6⟩) (by assumption) ?r1_6
    case' y1_6 => (intro w hSw; (try dsimp only at hSw); obtain ⟨hcS, hfS⟩ := bcell hSw; clear hSw; go_simp; try with_reducible rfl)
    try simp only [Act.put, List.getElem_toArray, List.getElem_cons_succ, List.getElem_cons_zero, List.setIfInBounds_toArray, List.set_cons_zero, List.set_cons_succ]
    refine wpAnyH_ready (rs := [1]) (by kernel_rfl) (by simp) ?_
    refine AllReadyH.cons rfl (fun K hK => ?_) AllReadyH.nil
    go_simp
    (first | (go_at_call 76; refine (many_any _ _).mono ?_; rw [HX.out]; rintro e w1 ⟨rfl, rfl⟩) | (go_at_call 77; refine (checkGauges_any _ gs _ (by unfold maxLen; omega) ((HGS.out.below (by repeat (first | exact Below.refl _ _ | assumption | refine Below.drew ?_ | refine Below.drewN ?_ _ | refine Below.allocT ?_ (Nat.le_refl _) _ | refine Below.setCell ?_ (by simp <;> omega) _ | refine Below.to ?_ (by assumption) (Nat.le_refl _)))).more (Below.size (by repeat (first | exact Below.refl _ _ | assumption | refine Below.drew ?_ | refine Below.drewN ?_ _ | refine Below.allocT ?_ (Nat.le_refl _) _ | refine Below.setCell ?_ (by simp <;> omega) _ | refine Below.to ?_ (by assumption) (Nat.le_refl _)))))).mono ?_; rw [HY.out]; rintro e w2 ⟨rfl, hB2⟩) | (go_at_call 84; refine (checkFuses_any _ fs _ (by unfold maxLen; omega) ((HFS.out.below (by repeat (first | exact Below.refl _ _ | assumption | refine Below.drew ?_ | refine Below.drewN ?_ _ | refine Below.allocT ?_ (Nat.le_refl _) _ | refine Below.setCell ?_ (by simp <;> omega) _ | refine Below.to ?_ (by assumption) (Nat.le_refl _)))).more (Below.size (by repeat (first | exact Below.refl _ _ | assumption | refine Below.drew ?_ | refine Below.drewN ?_ _ | refine Below.allocT ?_ (Nat.le_refl _) _ | refine Below.setCell ?_ (by simp <;> omega) _ | refine Below.to ?_ (by assumption) (Nat.le_refl _)))))).mono ?_; rw [HZ.out]; rintro e w3 ⟨rfl, hB3⟩) | (go_at_call 72; refine (checkNeed_any n _ cs _ hn ((H.out.below (by repeat (first | exact Below.refl _ _ | assumption | refine Below.drew ?_ | refine Below.drewN ?_ _ | refine Below.allocT ?_ (Nat.le_refl _) _ | refine Below.setCell ?_ (by simp <;> omega) _ | refine Below.to ?_ (by assumption) (Nat.le_refl _)))).more (Below.size (by repeat (first | exact Below.refl _ _ | assumption | refine Below.drew ?_ | refine Below.drewN ?_ _ | refine Below.allocT ?_ (Nat.le_refl _) _ | refine Below.setCell ?_ (by simp <;> omega) _ | refine Below.to ?_ (by assumption) (Nat.le_refl _)))))).mono ?_; rw [HT.out]; rintro e w4 ⟨rfl, hB4⟩) | (go_at_call 58; refine (errors4v _ x y z t u _ (by simp) (by simp) (by simp) (by simp) HU.out).mono ?_; rintro e w5 ⟨rfl, rfl⟩))
    (try dsimp only)
    refine hK.out _ _ ?_ (fun hNext => ?_)
    · try dsimp only
      exact (by repeat (first | exact Below.refl _ _ | assumption | refine Below.drew ?_ | refine Below.drewN ?_ _ | refine Below.allocT ?_ (Nat.le_refl _) _ | refine Below.setCell ?_ (by simp <;> omega) _ | refine Below.to ?_ (by assumption) (Nat.le_refl _)))
    clear hK K hHeld
    have hHeld := hNext
    clear hNext
    (try dsimp only at hHeld)
    try simp only [Act.put, List.getElem_toArray, List.getElem_cons_succ, List.getElem_cons_zero, List.setIfInBounds_toArray, List.set_cons_zero, List.set_cons_succ]
    refine wpAnyH_ready (rs := [3]) (by kernel_rfl) (by simp) ?_
    refine AllReadyH.cons rfl (fun K hK => ?_) AllReadyH.nil
    go_simp
    (first | (go_at_call 76; refine (many_any _ _).mono ?_; rw [HX.out]; rintro e w1 ⟨rfl, rfl⟩) | (go_at_call 77; refine (checkGauges_any _ gs _ (by unfold maxLen; omega) ((HGS.out.below (by repeat (first | exact Below.refl _ _ | assumption | refine Below.drew ?_ | refine Below.drewN ?_ _ | refine Below.allocT ?_ (Nat.le_refl _) _ | refine Below.setCell ?_ (by simp <;> omega) _ | refine Below.to ?_ (by assumption) (Nat.le_refl _)))).more (Below.size (by repeat (first | exact Below.refl _ _ | assumption | refine Below.drew ?_ | refine Below.drewN ?_ _ | refine Below.allocT ?_ (Nat.le_refl _) _ | refine Below.setCell ?_ (by simp <;> omega) _ | refine Below.to ?_ (by assumption) (Nat.le_refl _)))))).mono ?_; rw [HY.out]; rintro e w2 ⟨rfl, hB2⟩) | (go_at_call 84; refine (checkFuses_any _ fs _ (by unfold maxLen; omega) ((HFS.out.below (by repeat (first | exact Below.refl _ _ | assumption | refine Below.drew ?_ | refine Below.drewN ?_ _ | refine Below.allocT ?_ (Nat.le_refl _) _ | refine Below.setCell ?_ (by simp <;> omega) _ | refine Below.to ?_ (by assumption) (Nat.le_refl _)))).more (Below.size (by repeat (first | exact Below.refl _ _ | assumption | refine Below.drew ?_ | refine Below.drewN ?_ _ | refine Below.allocT ?_ (Nat.le_refl _) _ | refine Below.setCell ?_ (by simp <;> omega) _ | refine Below.to ?_ (by assumption) (Nat.le_refl _)))))).mono ?_; rw [HZ.out]; rintro e w3 ⟨rfl, hB3⟩) | (go_at_call 72; refine (checkNeed_any n _ cs _ hn ((H.out.below (by repeat (first | exact Below.refl _ _ | assumption | refine Below.drew ?_ | refine Below.drewN ?_ _ | refine Below.allocT ?_ (Nat.le_refl _) _ | refine Below.setCell ?_ (by simp <;> omega) _ | refine Below.to ?_ (by assumption) (Nat.le_refl _)))).more (Below.size (by repeat (first | exact Below.refl _ _ | assumption | refine Below.drew ?_ | refine Below.drewN ?_ _ | refine Below.allocT ?_ (Nat.le_refl _) _ | refine Below.setCell ?_ (by simp <;> omega) _ | refine Below.to ?_ (by assumption) (Nat.le_refl _)))))).mono ?_; rw [HT.out]; rintro e w4 ⟨rfl, hB4⟩) | (go_at_call 58; refine (errors4v _ x y z t u _ (by simp) (by simp) (by simp) (by simp) HU.out).mono ?_; rintro e w5 ⟨rfl, rfl⟩))
    (try dsimp only)
    refine hK.out _ _ ?_ (fun hNext => ?_)
    · try dsimp only
      exact (by repeat (first | exact Below.refl _ _ | assumption | refine Below.drew ?_ | refine Below.drewN ?_ _ | refine Below.allocT ?_ (Nat.le_refl _) _ | refine Below.setCell ?_ (by simp <;> omega) _ | refine Below.to ?_ (by assumption) (Nat.le_refl _)))
    clear hK K hHeld
    have hHeld := hNext
    clear hNext
    (try dsimp only at hHeld)
    try simp only [Act.put, List.getElem_toArray, List.getElem_cons_succ, List.getElem_cons_zero, List.setIfInBounds_toArray, List.set_cons_zero, List.set_cons_succ]
    refine wpAnyH_ready (rs := [5]) (by kernel_rfl) (by simp) ?_
    refine AllReadyH.cons rfl (fun K hK => ?_) AllReadyH.nil
    go_simp
    (first | (go_at_call 76; refine (many_any _ _).mono ?_; rw [HX.out]; rintro e w1 ⟨rfl, rfl⟩) | (go_at_call 77; refine (checkGauges_any _ gs _ (by unfold maxLen; omega) ((HGS.out.below (by repeat (first | exact Below.refl _ _ | assumption | refine Below.drew ?_ | refine Below.drewN ?_ _ | refine Below.allocT ?_ (Nat.le_refl _) _ | refine Below.setCell ?_ (by simp <;> omega) _ | refine Below.to ?_ (by assumption) (Nat.le_refl _)))).more (Below.size (by repeat (first | exact Below.refl _ _ | assumption | refine Below.drew ?_ | refine Below.drewN ?_ _ | refine Below.allocT ?_ (Nat.le_refl _) _ | refine Below.setCell ?_ (by simp <;> omega) _ | refine Below.to ?_ (by assumption) (Nat.le_refl _)))))).mono ?_; rw [HY.out]; rintro e w2 ⟨rfl, hB2⟩) | (go_at_call 84; refine (checkFuses_any _ fs _ (by unfold maxLen; omega) ((HFS.out.below (by repeat (first | exact Below.refl _ _ | assumption | refine Below.drew ?_ | refine Below.drewN ?_ _ | refine Below.allocT ?_ (Nat.le_refl _) _ | refine Below.setCell ?_ (by simp <;> omega) _ | refine Below.to ?_ (by assumption) (Nat.le_refl _)))).more (Below.size (by repeat (first | exact Below.refl _ _ | assumption | refine Below.drew ?_ | refine Below.drewN ?_ _ | refine Below.allocT ?_ (Nat.le_refl _) _ | refine Below.setCell ?_ (by simp <;> omega) _ | refine Below.to ?_ (by assumption) (Nat.le_refl _)))))).mono ?_; rw [HZ.out]; rintro e w3 ⟨rfl, hB3⟩) | (go_at_call 72; refine (checkNeed_any n _ cs _ hn ((H.out.below (by repeat (first | exact Below.refl _ _ | assumption | refine Below.drew ?_ | refine Below.drewN ?_ _ | refine Below.allocT ?_ (Nat.le_refl _) _ | refine Below.setCell ?_ (by simp <;> omega) _ | refine Below.to ?_ (by assumption) (Nat.le_refl _)))).more (Below.size (by repeat (first | exact Below.refl _ _ | assumption | refine Below.drew ?_ | refine Below.drewN ?_ _ | refine Below.allocT ?_ (Nat.le_refl _) _ | refine Below.setCell ?_ (by simp <;> omega) _ | refine Below.to ?_ (by assumption) (Nat.le_refl _)))))).mono ?_; rw [HT.out]; rintro e w4 ⟨rfl, hB4⟩) | (go_at_call 58; refine (errors4v _ x y z t u _ (by simp) (by simp) (by simp) (by simp) HU.out).mono ?_; rintro e w5 ⟨rfl, rfl⟩))
    (try dsimp only)
    refine hK.out _ _ ?_ (fun hNext => ?_)
    · try dsimp only
      exact (by repeat (first | exact Below.refl _ _ | assumption | refine Below.drew ?_ | refine Below.drewN ?_ _ | refine Below.allocT ?_ (Nat.le_refl _) _ | refine Below.setCell ?_ (by simp <;> omega) _ | refine Below.to ?_ (by assumption) (Nat.le_refl _)))
    clear hK K hHeld
    have hHeld := hNext
    clear hNext
    (try dsimp only at hHeld)
    try simp only [Act.put, List.getElem_toArray, List.getElem_cons_succ, List.getElem_cons_zero, List.setIfInBounds_toArray, List.set_cons_zero, List.set_cons_succ]
    refine wpAnyH_ready (rs := [7]) (by kernel_rfl) (by simp) ?_
    refine AllReadyH.cons rfl (fun K hK => ?_) AllReadyH.nil
    go_simp
    (first | (go_at_call 76; refine (many_any _ _).mono ?_; rw [HX.out]; rintro e w1 ⟨rfl, rfl⟩) | (go_at_call 77; refine (checkGauges_any _ gs _ (by unfold maxLen; omega) ((HGS.out.below (by repeat (first | exact Below.refl _ _ | assumption | refine Below.drew ?_ | refine Below.drewN ?_ _ | refine Below.allocT ?_ (Nat.le_refl _) _ | refine Below.setCell ?_ (by simp <;> omega) _ | refine Below.to ?_ (by assumption) (Nat.le_refl _)))).more (Below.size (by repeat (first | exact Below.refl _ _ | assumption | refine Below.drew ?_ | refine Below.drewN ?_ _ | refine Below.allocT ?_ (Nat.le_refl _) _ | refine Below.setCell ?_ (by simp <;> omega) _ | refine Below.to ?_ (by assumption) (Nat.le_refl _)))))).mono ?_; rw [HY.out]; rintro e w2 ⟨rfl, hB2⟩) | (go_at_call 84; refine (checkFuses_any _ fs _ (by unfold maxLen; omega) ((HFS.out.below (by repeat (first | exact Below.refl _ _ | assumption | refine Below.drew ?_ | refine Below.drewN ?_ _ | refine Below.allocT ?_ (Nat.le_refl _) _ | refine Below.setCell ?_ (by simp <;> omega) _ | refine Below.to ?_ (by assumption) (Nat.le_refl _)))).more (Below.size (by repeat (first | exact Below.refl _ _ | assumption | refine Below.drew ?_ | refine Below.drewN ?_ _ | refine Below.allocT ?_ (Nat.le_refl _) _ | refine Below.setCell ?_ (by simp <;> omega) _ | refine Below.to ?_ (by assumption) (Nat.le_refl _)))))).mono ?_; rw [HZ.out]; rintro e w3 ⟨rfl, hB3⟩) | (go_at_call 72; refine (checkNeed_any n _ cs _ hn ((H.out.below (by repeat (first | exact Below.refl _ _ | assumption | refine Below.drew ?_ | refine Below.drewN ?_ _ | refine Below.allocT ?_ (Nat.le_refl _) _ | refine Below.setCell ?_ (by simp <;> omega) _ | refine Below.to ?_ (by assumption) (Nat.le_refl _)))).more (Below.size (by repeat (first | exact Below.refl _ _ | assumption | refine Below.drew ?_ | refine Below.drewN ?_ _ | refine Below.allocT ?_ (Nat.le_refl _) _ | refine Below.setCell ?_ (by simp <;> omega) _ | refine Below.to ?_ (by assumption) (Nat.le_refl _)))))).mono ?_; rw [HT.out]; rintro e w4 ⟨rfl, hB4⟩) | (go_at_call 58; refine (errors4v _ x y z t u _ (by simp) (by simp) (by simp) (by simp) HU.out).mono ?_; rintro e w5 ⟨rfl, rfl⟩))
    (try dsimp only)
    refine hK.out _ _ ?_ (fun hNext => ?_)
    · try dsimp only
      exact (by repeat (first | exact Below.refl _ _ | assumption | refine Below.drew ?_ | refine Below.drewN ?_ _ | refine Below.allocT ?_ (Nat.le_refl _) _ | refine Below.setCell ?_ (by simp <;> omega) _ | refine Below.to ?_ (by assumption) (Nat.le_refl _)))
    clear hK K hHeld
    have hHeld := hNext
    clear hNext
    (try dsimp only at hHeld)
    try simp only [Act.put, List.getElem_toArray, List.getElem_cons_succ, List.getElem_cons_zero, List.setIfInBounds_toArray, List.set_cons_zero, List.set_cons_succ]
    refine wpAnyH_ready (rs := [8]) (by kernel_rfl) (by simp) ?_
    refine AllReadyH.cons rfl (fun K hK => ?_) AllReadyH.nil
    go_simp
    refine hK.out _ _ ?_ (fun hNext => ?_)
    · try dsimp only
      exact (by repeat (first | exact Below.refl _ _ | assumption | refine Below.drew ?_ | refine Below.drewN ?_ _ | refine Below.allocT ?_ (Nat.le_refl _) _ | refine Below.setCell ?_ (by simp <;> omega) _ | refine Below.to ?_ (by assumption) (Nat.le_refl _)))
    clear hK K hHeld
    have hHeld := hNext
    clear hNext
    (try dsimp only at hHeld)
    try simp only [Act.put, List.getElem_toArray, List.getElem_cons_succ, List.getElem_cons_zero, List.setIfInBounds_toArray, List.set_cons_zero, List.set_cons_succ]
    refine wpAnyH_ready (rs := [9]) (by kernel_rfl) (by simp) ?_
    refine AllReadyH.cons rfl (fun K hK => ?_) AllReadyH.nil
    go_simp
    (first | (go_at_call 76; refine (many_any _ _).mono ?_; rw [HX.out]; rintro e w1 ⟨rfl, rfl⟩) | (go_at_call 77; refine (checkGauges_any _ gs _ (by unfold maxLen; omega) ((HGS.out.below (by repeat (first | exact Below.refl _ _ | assumption | refine Below.drew ?_ | refine Below.drewN ?_ _ | refine Below.allocT ?_ (Nat.le_refl _) _ | refine Below.setCell ?_ (by simp <;> omega) _ | refine Below.to ?_ (by assumption) (Nat.le_refl _)))).more (Below.size (by repeat (first | exact Below.refl _ _ | assumption | refine Below.drew ?_ | refine Below.drewN ?_ _ | refine Below.allocT ?_ (Nat.le_refl _) _ | refine Below.setCell ?_ (by simp <;> omega) _ | refine Below.to ?_ (by assumption) (Nat.le_refl _)))))).mono ?_; rw [HY.out]; rintro e w2 ⟨rfl, hB2⟩) | (go_at_call 84; refine (checkFuses_any _ fs _ (by unfold maxLen; omega) ((HFS.out.below (by repeat (first | exact Below.refl _ _ | assumption | refine Below.drew ?_ | refine Below.drewN ?_ _ | refine Below.allocT ?_ (Nat.le_refl _) _ | refine Below.setCell ?_ (by simp <;> omega) _ | refine Below.to ?_ (by assumption) (Nat.le_refl _)))).more (Below.size (by repeat (first | exact Below.refl _ _ | assumption | refine Below.drew ?_ | refine Below.drewN ?_ _ | refine Below.allocT ?_ (Nat.le_refl _) _ | refine Below.setCell ?_ (by simp <;> omega) _ | refine Below.to ?_ (by assumption) (Nat.le_refl _)))))).mono ?_; rw [HZ.out]; rintro e w3 ⟨rfl, hB3⟩) | (go_at_call 72; refine (checkNeed_any n _ cs _ hn ((H.out.below (by repeat (first | exact Below.refl _ _ | assumption | refine Below.drew ?_ | refine Below.drewN ?_ _ | refine Below.allocT ?_ (Nat.le_refl _) _ | refine Below.setCell ?_ (by simp <;> omega) _ | refine Below.to ?_ (by assumption) (Nat.le_refl _)))).more (Below.size (by repeat (first | exact Below.refl _ _ | assumption | refine Below.drew ?_ | refine Below.drewN ?_ _ | refine Below.allocT ?_ (Nat.le_refl _) _ | refine Below.setCell ?_ (by simp <;> omega) _ | refine Below.to ?_ (by assumption) (Nat.le_refl _)))))).mono ?_; rw [HT.out]; rintro e w4 ⟨rfl, hB4⟩) | (go_at_call 58; refine (errors4v _ x y z t u _ (by simp) (by simp) (by simp) (by simp) HU.out).mono ?_; rintro e w5 ⟨rfl, rfl⟩))
    (try dsimp only)
    refine hK.out _ _ ?_ (fun hNext => ?_)
    · try dsimp only
      exact (by repeat (first | exact Below.refl _ _ | assumption | refine Below.drew ?_ | refine Below.drewN ?_ _ | refine Below.allocT ?_ (Nat.le_refl _) _ | refine Below.setCell ?_ (by simp <;> omega) _ | refine Below.to ?_ (by assumption) (Nat.le_refl _)))
    clear hK K hHeld
    have hHeld := hNext
    clear hNext
    (try dsimp only at hHeld)
    try simp only [Act.put, List.getElem_toArray, List.getElem_cons_succ, List.getElem_cons_zero, List.setIfInBounds_toArray, List.set_cons_zero, List.set_cons_succ]
    refine wpAnyH_take (i := 10) (v := ?v1_10) rfl (by kernel_rfl) (by kernel_rfl) (by kernel_rfl) (fun _ _ _ h => h) (Or.inl ⟨by rfl, ?y1_10⟩) (by assumption) ?r1_10
    case' y1_10 => (intro w hSw; (try dsimp only at hSw); obtain ⟨hcS, hfS⟩ := bcell hSw; clear hSw; go_simp; try with_reducible rfl)
    try simp only [Act.put, List.getElem_toArray, List.getElem_cons_succ, List.getElem_cons_zero, List.setIfInBounds_toArray, List.set_cons_zero, List.set_cons_succ]
    refine wpAnyH_done (by kernel_rfl) ?_ _
    generalize hwh : World.alloc _ _ = wh at hHeld ⊢
    clear hwh k0 k1 k2 k3 hB2 hB3 hB4
    have HBh : Hid (Below w0.heap.size w0 wh) := hHeld
    clear hHeld hB0
    by_cases hu0 : u = 0
    · have HPO := hide (HE0.out hu0)
      have hu1 : (u != 0) = false := by simp [hu0]
      clear hu0
      go_wp2_with fail
      go_loopw [37] (fun i wr => ∃ k : Nat, k ≤ gs.length ∧ i = .int .i64 k ∧ Hid (∀ j, j < k → pickA fs n cs (gs.getD j Ga.z) = false) ∧ Hid (Below wh.heap.size wh wr)) (fun i _ => gs.length - (intOf i).toNat)
      case atStart => exact ⟨0, Nat.zero_le _, rfl, fun j hj => by omega, Below.refl _ _⟩
      case round =>
        obtain ⟨k, hk, rfl, hz, hB⟩ := hrel
        have HBr : Hid (Below w0.heap.size w0 wr) := Below.to HBh.out hB.out (Nat.le_refl _)
        have HBq : Hid (Below w.heap.size w wr) := Below.to HB0.out HBr.out (Nat.le_refl _)
        by_cases hlt : k < gs.length
        · obtain ⟨g, HZg, hA1, hbw, h0, h1, h2, h3, h4⟩ := gaAtB HBq.out HA.out HC.out hlt
          subst hA1
          have hgo : Hid (g.Ok) := Ga.ok_iff.1 (by rw [← HZg.out]; exact tableB_get HPO.out.tab hlt)
          obtain ⟨d1, hd1⟩ : ∃ x, fitsB g n cs = x := ⟨_, rfl⟩
          obtain ⟨d2, hd2⟩ : ∃ x, pickK fs n cs g = x := ⟨_, rfl⟩
          have HS : Hid (pickA fs n cs (gs.getD k Ga.z) = (d1 && decide (0 ≤ d2))) := by show _ = _; rw [HZg.out]; unfold pickA; rw [hd1, hd2]
          have HD1 := hide hd1
          have HD2 := hide hd2
          clear hd1 hd2
          go_upto_region 8 with (fail)
          generalize hw5 : World.alloc _ _ = w5
          obtain ⟨hb5, hB5, hs5⟩ := alloc1 hw5
          clear hw5 h0 h1 h2 h3 h4
          have HG5 : Hid (GaugeAt w5 wr.heap.size g) := hb5
          have HN5 := hide (box_to HN0.out (Below.to HBr.out hB5 (Nat.le_refl _)))
          have HB5 := hide hB5
          have HB5q : Hid (Below w.heap.size w w5) := Below.to HBq.out hB5 (Nat.le_refl _)
          clear hb5 hB5 hs5
          have g0 := cellOf HG5.out 0
          have g1 := cellOf HG5.out 1
          have g2 := cellOf HG5.out 2
          have g3 := cellOf HG5.out 3
          have g4 := cellOf HG5.out 4
          have k0 := cellOf HN5.out 0
          have k1 := cellOf HN5.out 1
          have k2 := cellOf HN5.out 2
          have k3 := cellOf HN5.out 3
          go_wp2_with fail
          refine (fits_any g n _ cs _ hgo.out HPO.out.need ((H.out.below HB5q.out).more HB5q.out.size)).mono ?_
          rw [HD1.out]
          rintro e w6 ⟨rfl, hB6⟩
          have HB6 := hide hB6
          have HB6q : Hid (Below w.heap.size w w6) := Below.to HB5q.out hB6 (Nat.le_refl _)
          have HG6 := hide (box_to HG5.out hB6)
          have HN6 := hide (box_to HN5.out hB6)
          clear hB6 g0 g1 g2 g3 g4 k0 k1 k2 k3
          cases d1 with
          | false =>
            go_wp2_with fail
            go_roundw
            case rel => exact ⟨k + 1, by omega, by go_num, fun j hj => by
                rcases Nat.lt_or_ge j k with h | h
                · exact hz.out j h
                · rw [show j = k from by omega, HS.out]; rfl, Below.to (Below.to hB.out HB5.out (Nat.le_refl _)) HB6.out (Nat.le_refl _)⟩
            case measure => simp [intOf]; omega
          | true =>
            go_wp2_with fail
            refine (index_pick2 (pickU g n cs) (.pointer (some ⟨w.heap.size, 0, none⟩)) (.pointer (some ⟨wr.heap.size, 0, none⟩)) _ fs _ (by unfold maxLen; omega) ((HFS.out.below HB6q.out).more HB6q.out.size) (fun i q W hi hq hBW => pickF_any g q n w.heap.size wr.heap.size _ cs W (Fu.ok_iff.1 (by rw [← hq]; exact fusB_get HPO.out.fus hi)) hgo.out HPO.out.need (box_to HN6.out hBW) (box_to HG6.out hBW) ((H.out.below (Below.to HB6q.out hBW (Nat.le_refl _))).more (Below.size (Below.to HB6q.out hBW (Nat.le_refl _)))))).mono ?_
            rw [show idxI (pickU g n cs) fs = d2 from HD2.out]
            rintro e w7 ⟨rfl, hB7⟩
            have HB7 := hide hB7
            clear hB7
            by_cases hd : 0 ≤ d2
            · have hpg : pickG gs fs n cs = k := idxI_at _ Ga.z gs k hz.out hlt (by rw [HS.out]; simpa using hd)
              have HP := hide (pick_some HPO.out hpg)
              clear hpg
              go_wp2_with fail
              go_ret3
              exact ⟨by rw [HP.out.1, HP.out.2.1, HP.out.2.2, HZg.out, HD2.out]; first | rfl | simp, Below.to (Below.to HB6q.out HB7.out (Nat.le_refl _)) (Below.refl _ _) (Nat.le_refl _)⟩
            · go_wp2_with fail
              go_roundw
              case rel => exact ⟨k + 1, by omega, by go_num, fun j hj => by
                  rcases Nat.lt_or_ge j k with h | h
                  · exact hz.out j h
                  · rw [show j = k from by omega, HS.out]; simpa using hd, Below.to (Below.to (Below.to hB.out HB5.out (Nat.le_refl _)) HB6.out (Nat.le_refl _)) HB7.out (Nat.le_refl _)⟩
              case measure => simp [intOf]; omega
        · have hpg : pickG gs fs n cs = -1 := idxI_none _ Ga.z gs (fun j hj => hz.out j (by omega))
          have HP := hide (pick_none HPO.out (by rw [hpg]; omega))
          clear hpg
          go_wp2_with fail
          go_ret3
          exact ⟨by rw [HP.out.1, HP.out.2.1, HP.out.2.2]; first | rfl | simp, HBq.out⟩
    · have HE := hide (HE1.out hu0)
      have hu1 : (u != 0) = true := by simp [hu0]
      clear hu0
      go_wp2_with fail
      go_ret3
      exact ⟨by rw [HE.out.1, HE.out.2.1, HE.out.2.2]; first | rfl | simp, Below.to HB0.out HBh.out (Nat.le_refl _)⟩
end Go.Proofs.Ytejjjijaojkohaa

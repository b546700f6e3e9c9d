/- Choose: both walks. -/
import Derived.Test.YtejjjijaojkohaaRows
import Derived.Test.YtejjjijaojkohaaW29
import Derived.Test.YtejjjijaojkohaaW26
import Derived.Deep.RegionHeld3
namespace Go.Proofs.Ytejjjijaojkohaa
open Go.RowKit
set_option linter.unusedVariables false
set_option linter.unusedSimpArgs false

theorem chooseF_any (g : Ga) (n : Ne) (nb : Nat) (v : Value) (cs : List Cu) (w : World) (hg : g.Ok) (hk : NeOk n cs) (hN : NeedAt w nb v n) (h : Cyc w w.heap.size v cs) :
    Calls Try.prog 79 #[.agg #[.int .i64 g.area, .int .i64 g.ohm, .int .i64 g.heat, .int .i64 g.cool, .int .i64 g.limit], .pointer (some ⟨nb, 0, none⟩)] w fun e w' => e = .returned (.bool (fitsB g n cs)) ∧ Below w.heap.size w w' := by
  have hl := box_lt hN
  have H := hide h
  obtain ⟨A0, cap0, rfl⟩ := h.form
  clear h
  have HN := hide hN
  obtain ⟨k0, k1, k2, k3, _⟩ := need4 hN (Below.refl _ w)
  clear hN
  have HK := hide hk
  have HG := hide hg
  clear hk hg
  go_enter Try.func79, Try.ntmps79
  go_wp2_with (go_at_call 73; refine (fits_any g n _ cs _ HG.out HK.out (H.out.up (by repeat (first | exact Below.refl _ _ | assumption | refine Below.drew ?_ | refine Below.drewN ?_ _ | refine Below.allocT ?_ (Nat.le_refl _) _ | refine Below.setCell ?_ (by simp <;> omega) _ | refine Below.to ?_ (by assumption) (Nat.le_refl _))))).mono ?_; rintro e w1 ⟨rfl, hB1⟩)
  go_ret
  exact ⟨rfl, (by repeat (first | exact Below.refl _ _ | assumption | refine Below.drew ?_ | refine Below.drewN ?_ _ | refine Below.allocT ?_ (Nat.le_refl _) _ | refine Below.setCell ?_ (by simp <;> omega) _ | refine Below.to ?_ (by assumption) (Nat.le_refl _)))⟩

def chooseIx (gs : List Ga) (n : Ne) (cs : List Cu) : Int := idxI (fun g => fitsB g n cs) gs
def chooseErr (gs : List Ga) (n : Ne) (cs : List Cu) : Int := if 20 < gs.length then 2 else if tableB gs then if needOk n cs then if chooseIx gs n cs < 0 then 3 else 0 else 71 else 70
def chooseVal (gs : List Ga) (n : Ne) (cs : List Cu) : Int := if 20 < gs.length then 0 else if tableB gs then if needOk n cs then if chooseIx gs n cs < 0 then 0 else chooseIx gs n cs else 0 else 0

set_option maxRecDepth 100000 in
theorem Choose_any (gs : List Ga) (n : Ne) (gv v : Value) (cs : List Cu) (w : World) (hm : gs.length ≤ maxLen) (hn : cs.length ≤ 20) (hG : Gas w w.heap.size gv gs) (h : Cyc w w.heap.size v cs) :
    Calls Try.prog 35 #[gv, .agg #[v, .int .i64 n.len, .int .i64 n.drop, .int .i64 n.amb]] w fun e w' => e = .returned (.tuple #[.int .i64 (chooseVal gs n cs), .int .i64 (chooseErr gs n cs)]) ∧ Below w.heap.size w w' := by
  have H := hide h
  obtain ⟨A0, cap0, rfl⟩ := h.form
  clear h
  have HGS := hide hG
  obtain ⟨A1, cap1, rfl⟩ := Sl.form hG
  clear hG
  have HM := hide hm
  unfold maxLen at hm
  obtain ⟨x, hx⟩ : ∃ x : Int, (if decide (20 < gs.length) then (2 : Int) else 0) = x := ⟨_, rfl⟩
  obtain ⟨y, hy⟩ : ∃ y, gasErr gs = y := ⟨_, rfl⟩
  obtain ⟨z, hz⟩ : ∃ z, needErr n cs = z := ⟨_, rfl⟩
  obtain ⟨u, hu⟩ : ∃ u : Int, (if x = 0 then if y = 0 then z else y else x) = u := ⟨_, rfl⟩
  obtain ⟨ix, hix⟩ : ∃ i : Int, chooseIx gs n cs = i := ⟨_, rfl⟩
  obtain ⟨d, hd⟩ : ∃ d : Bool, decide (20 < gs.length) = d := ⟨_, rfl⟩
  have HD := hide hd
  have HX : Hid ((if d then (2 : Int) else 0) = x) := by show _ = _; rw [← hd]; exact hx
  have HY := hide hy
  have HZ := hide hz
  have HU := hide hu
  have HIX := hide hix
  have hE0 : u = 0 → tableB gs = true ∧ needOk n cs = true ∧ chooseErr gs n cs = (if ix < 0 then 3 else 0) ∧ chooseVal gs n cs = (if ix < 0 then 0 else ix) := by
    intro h0
    rw [← hu, ← hx, ← hy, ← hz] at h0
    unfold chooseErr chooseVal
    rw [hix]
    unfold gasErr needErr at h0
    by_cases h20 : 20 < gs.length
    · simp [h20] at h0
    · cases ht : tableB gs <;> cases hn2 : needOk n cs <;> simp [h20, ht, hn2] at h0 ⊢
  have hE1 : u ≠ 0 → chooseErr gs n cs = u ∧ chooseVal gs n cs = 0 := by
    intro h0
    rw [← hu, ← hx, ← hy, ← hz] at h0 ⊢
    unfold chooseErr chooseVal
    unfold gasErr needErr at h0 ⊢
    by_cases h20 : 20 < gs.length
    · simp [h20]
    · cases ht : tableB gs <;> cases hn2 : needOk n cs <;> simp [h20, ht, hn2] at h0 ⊢
  have HE0 := hide hE0
  have HE1 := hide hE1
  clear hx hy hz hu hix hE0 hE1
  go_enter Try.func35, Try.ntmps35
  go_wp2_with fail
  generalize hw0 : World.alloc _ _ = w0
  obtain ⟨hb0, hB0, hs0⟩ := alloc1 hw0
  clear hw0
  have HN0 : Hid (NeedAt w0 w.heap.size (.slice A0 cs.length cap0) n) := hb0
  have k0 := cellOf hb0 0
  have k1 := cellOf hb0 1
  have k2 := cellOf hb0 2
  have k3 := cellOf hb0 3
  have hl0 : w.heap.size < w0.heap.size := by omega
  clear hs0
  have hd2 : decide ((20 : Int) < (gs.length : Int)) = d := by rw [← hd]; rw [decide_eq_decide]; omega
  clear hd
  refine wp_region_held_drew (S := (fun w' => Below w0.heap.size w0 w')) (by kernel_rfl) ?_ (fun hHeld => ?_)
  · try dsimp only
    exact (by repeat (first | exact Below.refl _ _ | assumption | refine Below.drew ?_ | refine Below.drewN ?_ _ | refine Below.allocT ?_ (Nat.le_refl _) _ | refine Below.setCell ?_ (by simp <;> omega) _ | refine Below.to ?_ (by assumption) (Nat.le_refl _)))
  refine wpAnyH_take (i := 0) (v := ?v1_0) rfl (by kernel_rfl) (by kernel_rfl) (by kernel_rfl) (fun _ _ _ h => h) (Or.inl ⟨by rfl, ?y1_0⟩) (by assumption) ?r1_0
  case' y1_0 => (intro w hSw; (try dsimp only at hSw); obtain ⟨hcS, hfS⟩ := bcell hSw; clear hSw; go_simp; try with_reducible rfl)
  try simp only [Act.put, List.getElem_toArray, List.getElem_cons_succ, List.getElem_cons_zero, List.setIfInBounds_toArray, List.set_cons_zero, List.set_cons_succ]
  refine wpAnyH_take (i := 1) (v := ?v1_1) rfl (by kernel_rfl) (by kernel_rfl) (by kernel_rfl) (fun _ _ _ h => h) (Or.inl ⟨by rfl, ?y1_1⟩) (by assumption) ?r1_1
  case' y1_1 => (intro w hSw; (try dsimp only at hSw); obtain ⟨hcS, hfS⟩ := bcell hSw; clear hSw; go_simp; try with_reducible rfl)
  try simp only [Act.put, List.getElem_toArray, List.getElem_cons_succ, List.getElem_cons_zero, List.setIfInBounds_toArray, List.set_cons_zero, List.set_cons_succ]
  refine wpAnyH_take (i := 2) (v := ?v1_2) rfl (by kernel_rfl) (by kernel_rfl) (by kernel_rfl) (fun _ _ _ h => h) (Or.inl ⟨by rfl, ?y1_2⟩) (by assumption) ?r1_2
  case' y1_2 => (intro w hSw; (try dsimp only at hSw); obtain ⟨hcS, hfS⟩ := bcell hSw; clear hSw; go_simp; try with_reducible rfl)
  try simp only [Act.put, List.getElem_toArray, List.getElem_cons_succ, List.getElem_cons_zero, List.setIfInBounds_toArray, List.set_cons_zero, List.set_cons_succ]
  refine wpAnyH_take (i := 4) (v := ?v1_4) rfl (by kernel_rfl) (by kernel_rfl) (by kernel_rfl) (fun _ _ _ h => h) (Or.inl ⟨by rfl, ?y1_4⟩) (by assumption) ?r1_4
  case' y1_4 => (intro w hSw; (try dsimp only at hSw); obtain ⟨hcS, hfS⟩ := bcell hSw; clear hSw; go_simp; try with_reducible rfl)
  try simp only [Act.put, List.getElem_toArray, List.getElem_cons_succ, List.getElem_cons_zero, List.setIfInBounds_toArray, List.set_cons_zero, List.set_cons_succ]
  refine wpAnyH_take (i := 6) (v := ?v1_6) rfl (by kernel_rfl) (by kernel_rfl) (by kernel_rfl) (fun _ _ _ h => h) (Or.inl ⟨by rfl, ?y1_6⟩) (by assumption) ?r1_6
  case' y1_6 => (intro w hSw; (try dsimp only at hSw); obtain ⟨hcS, hfS⟩ := bcell hSw; clear hSw; go_simp; try with_reducible rfl)
  try simp only [Act.put, List.getElem_toArray, List.getElem_cons_succ, List.getElem_cons_zero, List.setIfInBounds_toArray, List.set_cons_zero, List.set_cons_succ]
  refine wpAnyH_ready (rs := [3]) (by kernel_rfl) (by simp) ?_
  refine AllReadyH.cons rfl (fun K hK => ?_) AllReadyH.nil
  go_simp
  (first | (go_at_call 76; refine (many_any _ _).mono ?_; rw [HX.out]; rintro e w1 ⟨rfl, rfl⟩) | (go_at_call 77; refine (checkGauges_any _ gs _ HM.out ((HGS.out.below (by repeat (first | exact Below.refl _ _ | assumption | refine Below.drew ?_ | refine Below.drewN ?_ _ | refine Below.allocT ?_ (Nat.le_refl _) _ | refine Below.setCell ?_ (by simp <;> omega) _ | refine Below.to ?_ (by assumption) (Nat.le_refl _)))).more (Below.size (by repeat (first | exact Below.refl _ _ | assumption | refine Below.drew ?_ | refine Below.drewN ?_ _ | refine Below.allocT ?_ (Nat.le_refl _) _ | refine Below.setCell ?_ (by simp <;> omega) _ | refine Below.to ?_ (by assumption) (Nat.le_refl _)))))).mono ?_; rw [HY.out]; rintro e w2 ⟨rfl, hB2⟩) | (go_at_call 72; refine (checkNeed_any n _ cs _ hn ((H.out.below (by repeat (first | exact Below.refl _ _ | assumption | refine Below.drew ?_ | refine Below.drewN ?_ _ | refine Below.allocT ?_ (Nat.le_refl _) _ | refine Below.setCell ?_ (by simp <;> omega) _ | refine Below.to ?_ (by assumption) (Nat.le_refl _)))).more (Below.size (by repeat (first | exact Below.refl _ _ | assumption | refine Below.drew ?_ | refine Below.drewN ?_ _ | refine Below.allocT ?_ (Nat.le_refl _) _ | refine Below.setCell ?_ (by simp <;> omega) _ | refine Below.to ?_ (by assumption) (Nat.le_refl _)))))).mono ?_; rw [HZ.out]; rintro e w3 ⟨rfl, hB3⟩) | (go_at_call 58; refine (errors3v _ x y z u _ (by simp) (by simp) (by simp) HU.out).mono ?_; rintro e w4 ⟨rfl, rfl⟩))
  (try dsimp only)
  refine hK.out _ _ ?_ (fun hNext => ?_)
  · try dsimp only
    exact (by repeat (first | exact Below.refl _ _ | assumption | refine Below.drew ?_ | refine Below.drewN ?_ _ | refine Below.allocT ?_ (Nat.le_refl _) _ | refine Below.setCell ?_ (by simp <;> omega) _ | refine Below.to ?_ (by assumption) (Nat.le_refl _)))
  clear hK K hHeld
  have hHeld := hNext
  clear hNext
  (try dsimp only at hHeld)
  try simp only [Act.put, List.getElem_toArray, List.getElem_cons_succ, List.getElem_cons_zero, List.setIfInBounds_toArray, List.set_cons_zero, List.set_cons_succ]
  refine wpAnyH_ready (rs := [5]) (by kernel_rfl) (by simp) ?_
  refine AllReadyH.cons rfl (fun K hK => ?_) AllReadyH.nil
  go_simp
  (first | (go_at_call 76; refine (many_any _ _).mono ?_; rw [HX.out]; rintro e w1 ⟨rfl, rfl⟩) | (go_at_call 77; refine (checkGauges_any _ gs _ HM.out ((HGS.out.below (by repeat (first | exact Below.refl _ _ | assumption | refine Below.drew ?_ | refine Below.drewN ?_ _ | refine Below.allocT ?_ (Nat.le_refl _) _ | refine Below.setCell ?_ (by simp <;> omega) _ | refine Below.to ?_ (by assumption) (Nat.le_refl _)))).more (Below.size (by repeat (first | exact Below.refl _ _ | assumption | refine Below.drew ?_ | refine Below.drewN ?_ _ | refine Below.allocT ?_ (Nat.le_refl _) _ | refine Below.setCell ?_ (by simp <;> omega) _ | refine Below.to ?_ (by assumption) (Nat.le_refl _)))))).mono ?_; rw [HY.out]; rintro e w2 ⟨rfl, hB2⟩) | (go_at_call 72; refine (checkNeed_any n _ cs _ hn ((H.out.below (by repeat (first | exact Below.refl _ _ | assumption | refine Below.drew ?_ | refine Below.drewN ?_ _ | refine Below.allocT ?_ (Nat.le_refl _) _ | refine Below.setCell ?_ (by simp <;> omega) _ | refine Below.to ?_ (by assumption) (Nat.le_refl _)))).more (Below.size (by repeat (first | exact Below.refl _ _ | assumption | refine Below.drew ?_ | refine Below.drewN ?_ _ | refine Below.allocT ?_ (Nat.le_refl _) _ | refine Below.setCell ?_ (by simp <;> omega) _ | refine Below.to ?_ (by assumption) (Nat.le_refl _)))))).mono ?_; rw [HZ.out]; rintro e w3 ⟨rfl, hB3⟩) | (go_at_call 58; refine (errors3v _ x y z u _ (by simp) (by simp) (by simp) HU.out).mono ?_; rintro e w4 ⟨rfl, rfl⟩))
  (try dsimp only)
  refine hK.out _ _ ?_ (fun hNext => ?_)
  · try dsimp only
    exact (by repeat (first | exact Below.refl _ _ | assumption | refine Below.drew ?_ | refine Below.drewN ?_ _ | refine Below.allocT ?_ (Nat.le_refl _) _ | refine Below.setCell ?_ (by simp <;> omega) _ | refine Below.to ?_ (by assumption) (Nat.le_refl _)))
  clear hK K hHeld
  have hHeld := hNext
  clear hNext
  (try dsimp only at hHeld)
  try simp only [Act.put, List.getElem_toArray, List.getElem_cons_succ, List.getElem_cons_zero, List.setIfInBounds_toArray, List.set_cons_zero, List.set_cons_succ]
  refine wpAnyH_ready (rs := [7]) (by kernel_rfl) (by simp) ?_
  refine AllReadyH.cons rfl (fun K hK => ?_) AllReadyH.nil
  go_simp
  (first | (go_at_call 76; refine (many_any _ _).mono ?_; rw [HX.out]; rintro e w1 ⟨rfl, rfl⟩) | (go_at_call 77; refine (checkGauges_any _ gs _ HM.out ((HGS.out.below (by repeat (first | exact Below.refl _ _ | assumption | refine Below.drew ?_ | refine Below.drewN ?_ _ | refine Below.allocT ?_ (Nat.le_refl _) _ | refine Below.setCell ?_ (by simp <;> omega) _ | refine Below.to ?_ (by assumption) (Nat.le_refl _)))).more (Below.size (by repeat (first | exact Below.refl _ _ | assumption | refine Below.drew ?_ | refine Below.drewN ?_ _ | refine Below.allocT ?_ (Nat.le_refl _) _ | refine Below.setCell ?_ (by simp <;> omega) _ | refine Below.to ?_ (by assumption) (Nat.le_refl _)))))).mono ?_; rw [HY.out]; rintro e w2 ⟨rfl, hB2⟩) | (go_at_call 72; refine (checkNeed_any n _ cs _ hn ((H.out.below (by repeat (first | exact Below.refl _ _ | assumption | refine Below.drew ?_ | refine Below.drewN ?_ _ | refine Below.allocT ?_ (Nat.le_refl _) _ | refine Below.setCell ?_ (by simp <;> omega) _ | refine Below.to ?_ (by assumption) (Nat.le_refl _)))).more (Below.size (by repeat (first | exact Below.refl _ _ | assumption | refine Below.drew ?_ | refine Below.drewN ?_ _ | refine Below.allocT ?_ (Nat.le_refl _) _ | refine Below.setCell ?_ (by simp <;> omega) _ | refine Below.to ?_ (by assumption) (Nat.le_refl _)))))).mono ?_; rw [HZ.out]; rintro e w3 ⟨rfl, hB3⟩) | (go_at_call 58; refine (errors3v _ x y z u _ (by simp) (by simp) (by simp) HU.out).mono ?_; rintro e w4 ⟨rfl, rfl⟩))
  (try dsimp only)
  refine hK.out _ _ ?_ (fun hNext => ?_)
  · try dsimp only
    exact (by repeat (first | exact Below.refl _ _ | assumption | refine Below.drew ?_ | refine Below.drewN ?_ _ | refine Below.allocT ?_ (Nat.le_refl _) _ | refine Below.setCell ?_ (by simp <;> omega) _ | refine Below.to ?_ (by assumption) (Nat.le_refl _)))
  clear hK K hHeld
  have hHeld := hNext
  clear hNext
  (try dsimp only at hHeld)
  try simp only [Act.put, List.getElem_toArray, List.getElem_cons_succ, List.getElem_cons_zero, List.setIfInBounds_toArray, List.set_cons_zero, List.set_cons_succ]
  refine wpAnyH_ready (rs := [8]) (by kernel_rfl) (by simp) ?_
  refine AllReadyH.cons rfl (fun K hK => ?_) AllReadyH.nil
  go_simp
  refine hK.out _ _ ?_ (fun hNext => ?_)
  · try dsimp only
    exact (by repeat (first | exact Below.refl _ _ | assumption | refine Below.drew ?_ | refine Below.drewN ?_ _ | refine Below.allocT ?_ (Nat.le_refl _) _ | refine Below.setCell ?_ (by simp <;> omega) _ | refine Below.to ?_ (by assumption) (Nat.le_refl _)))
  clear hK K hHeld
  have hHeld := hNext
  clear hNext
  (try dsimp only at hHeld)
  try simp only [Act.put, List.getElem_toArray, List.getElem_cons_succ, List.getElem_cons_zero, List.setIfInBounds_toArray, List.set_cons_zero, List.set_cons_succ]
  refine wpAnyH_ready (rs := [9]) (by kernel_rfl) (by simp) ?_
  refine AllReadyH.cons rfl (fun K hK => ?_) AllReadyH.nil
  go_simp
  (first | (go_at_call 76; refine (many_any _ _).mono ?_; rw [HX.out]; rintro e w1 ⟨rfl, rfl⟩) | (go_at_call 77; refine (checkGauges_any _ gs _ HM.out ((HGS.out.below (by repeat (first | exact Below.refl _ _ | assumption | refine Below.drew ?_ | refine Below.drewN ?_ _ | refine Below.allocT ?_ (Nat.le_refl _) _ | refine Below.setCell ?_ (by simp <;> omega) _ | refine Below.to ?_ (by assumption) (Nat.le_refl _)))).more (Below.size (by repeat (first | exact Below.refl _ _ | assumption | refine Below.drew ?_ | refine Below.drewN ?_ _ | refine Below.allocT ?_ (Nat.le_refl _) _ | refine Below.setCell ?_ (by simp <;> omega) _ | refine Below.to ?_ (by assumption) (Nat.le_refl _)))))).mono ?_; rw [HY.out]; rintro e w2 ⟨rfl, hB2⟩) | (go_at_call 72; refine (checkNeed_any n _ cs _ hn ((H.out.below (by repeat (first | exact Below.refl _ _ | assumption | refine Below.drew ?_ | refine Below.drewN ?_ _ | refine Below.allocT ?_ (Nat.le_refl _) _ | refine Below.setCell ?_ (by simp <;> omega) _ | refine Below.to ?_ (by assumption) (Nat.le_refl _)))).more (Below.size (by repeat (first | exact Below.refl _ _ | assumption | refine Below.drew ?_ | refine Below.drewN ?_ _ | refine Below.allocT ?_ (Nat.le_refl _) _ | refine Below.setCell ?_ (by simp <;> omega) _ | refine Below.to ?_ (by assumption) (Nat.le_refl _)))))).mono ?_; rw [HZ.out]; rintro e w3 ⟨rfl, hB3⟩) | (go_at_call 58; refine (errors3v _ x y z u _ (by simp) (by simp) (by simp) HU.out).mono ?_; rintro e w4 ⟨rfl, rfl⟩))
  (try dsimp only)
  refine hK.out _ _ ?_ (fun hNext => ?_)
  · try dsimp only
    exact (by repeat (first | exact Below.refl _ _ | assumption | refine Below.drew ?_ | refine Below.drewN ?_ _ | refine Below.allocT ?_ (Nat.le_refl _) _ | refine Below.setCell ?_ (by simp <;> omega) _ | refine Below.to ?_ (by assumption) (Nat.le_refl _)))
  clear hK K hHeld
  have hHeld := hNext
  clear hNext
  (try dsimp only at hHeld)
  try simp only [Act.put, List.getElem_toArray, List.getElem_cons_succ, List.getElem_cons_zero, List.setIfInBounds_toArray, List.set_cons_zero, List.set_cons_succ]
  refine wpAnyH_take (i := 10) (v := ?v1_10) rfl (by kernel_rfl) (by kernel_rfl) (by kernel_rfl) (fun _ _ _ h => h) (Or.inl ⟨by rfl, ?y1_10⟩) (by assumption) ?r1_10
  case' y1_10 => (intro w hSw; (try dsimp only at hSw); obtain ⟨hcS, hfS⟩ := bcell hSw; clear hSw; go_simp; try with_reducible rfl)
  try simp only [Act.put, List.getElem_toArray, List.getElem_cons_succ, List.getElem_cons_zero, List.setIfInBounds_toArray, List.set_cons_zero, List.set_cons_succ]
  refine wpAnyH_done (by kernel_rfl) ?_ _
  by_cases hu0 : u = 0
  · obtain ⟨ht, hnk, he, hv⟩ := HE0.out hu0
    have HT := hide ht
    have HNK := hide (needOk_iff.1 hnk)
    have HE := hide he
    have HV := hide hv
    clear ht hnk he hv
    have hu1 : (u != 0) = false := by simp [hu0]
    have HU0 := hide hu0
    clear hu0
    go_wp2_with (go_at_call 78; refine (index_choose (fun g => fitsB g n cs) _ _ gs _ HM.out ((HGS.out.below (by repeat (first | exact Below.refl _ _ | assumption | refine Below.drew ?_ | refine Below.drewN ?_ _ | refine Below.allocT ?_ (Nat.le_refl _) _ | refine Below.setCell ?_ (by simp <;> omega) _ | refine Below.to ?_ (by assumption) (Nat.le_refl _)))).more (Below.size (by repeat (first | exact Below.refl _ _ | assumption | refine Below.drew ?_ | refine Below.drewN ?_ _ | refine Below.allocT ?_ (Nat.le_refl _) _ | refine Below.setCell ?_ (by simp <;> omega) _ | refine Below.to ?_ (by assumption) (Nat.le_refl _))))) (fun i g W hi hg hBW => chooseF_any g n w.heap.size _ cs W (Ga.ok_iff.1 (by rw [← hg]; exact tableB_get HT.out hi)) HNK.out (box_to HN0.out (show Below w0.heap.size w0 W from Below.to hHeld hBW (Nat.le_refl _))) ((H.out.below (show Below w.heap.size w W from Below.to (by repeat (first | exact Below.refl _ _ | assumption | refine Below.drew ?_ | refine Below.drewN ?_ _ | refine Below.allocT ?_ (Nat.le_refl _) _ | refine Below.setCell ?_ (by simp <;> omega) _ | refine Below.to ?_ (by assumption) (Nat.le_refl _))) hBW (Nat.le_refl _))).more (Below.size (show Below w.heap.size w W from Below.to (by repeat (first | exact Below.refl _ _ | assumption | refine Below.drew ?_ | refine Below.drewN ?_ _ | refine Below.allocT ?_ (Nat.le_refl _) _ | refine Below.setCell ?_ (by simp <;> omega) _ | refine Below.to ?_ (by assumption) (Nat.le_refl _))) hBW (Nat.le_refl _)))))).mono ?_; rw [show idxI (fun g => fitsB g n cs) gs = ix from HIX.out]; rintro e w5 ⟨rfl, hB5⟩)
    all_goals
      go_ret2
      exact ⟨by rw [HE.out, HV.out]; simp [*]; try omega, (by repeat (first | exact Below.refl _ _ | assumption | refine Below.drew ?_ | refine Below.drewN ?_ _ | refine Below.allocT ?_ (Nat.le_refl _) _ | refine Below.setCell ?_ (by simp <;> omega) _ | refine Below.to ?_ (by assumption) (Nat.le_refl _)))⟩
  · obtain ⟨he, hv⟩ := HE1.out hu0
    have hu1 : (u != 0) = true := by simp [hu0]
    have HE := hide he
    have HV := hide hv
    clear he hv hu0
    go_wp2_with fail
    go_ret2
    exact ⟨by rw [HE.out, HV.out]; rfl, (by repeat (first | exact Below.refl _ _ | assumption | refine Below.drew ?_ | refine Below.drewN ?_ _ | refine Below.allocT ?_ (Nat.le_refl _) _ | refine Below.setCell ?_ (by simp <;> omega) _ | refine Below.to ?_ (by assumption) (Nat.le_refl _)))⟩

set_option maxRecDepth 100000 in
theorem rChoose_any (gs : List Ga) (n : Ne) (gv v : Value) (cs : List Cu) (w : World) (hm : gs.length ≤ maxLen) (hn : cs.length ≤ 20) (hG : Gas w w.heap.size gv gs) (h : Cyc w w.heap.size v cs) :
    Calls Try.prog 36 #[gv, .agg #[v, .int .i64 n.len, .int .i64 n.drop, .int .i64 n.amb]] w fun e w' => e = .returned (.tuple #[.int .i64 (chooseVal gs n cs), .int .i64 (chooseErr gs n cs)]) ∧ Below w.heap.size w w' := by
  have H := hide h
  obtain ⟨A0, cap0, rfl⟩ := h.form
  clear h
  have HGS := hide hG
  obtain ⟨A1, b, off, cap1, rfl, hnc, hA, hc⟩ := hG
  have HC := hide hc; clear hc
  have HA := hide hA; clear hA
  have HM := hide hm
  unfold maxLen at hm
  obtain ⟨d, hd⟩ : ∃ d : Bool, tableB gs = d := ⟨_, rfl⟩
  obtain ⟨nk, hnk⟩ : ∃ d : Bool, needOk n cs = d := ⟨_, rfl⟩
  have HD := hide hd
  have HNK := hide hnk
  clear hd hnk
  by_cases h20 : 20 < gs.length
  · go_enter Try.func36, Try.ntmps36
    go_wp2_with fail
    go_ret2
    exact ⟨by simp [chooseVal, chooseErr, h20], (by repeat (first | exact Below.refl _ _ | assumption | refine Below.drew ?_ | refine Below.drewN ?_ _ | refine Below.allocT ?_ (Nat.le_refl _) _ | refine Below.setCell ?_ (by simp <;> omega) _ | refine Below.to ?_ (by assumption) (Nat.le_refl _)))⟩
  · have H20 := hide h20
    have h20' : gs.length ≤ 20 := by omega
    clear h20
    go_enter Try.func36, Try.ntmps36
    go_wp2_with fail
    generalize hw0 : World.alloc _ _ = w0
    obtain ⟨hb0, hB0, hs0⟩ := alloc1 hw0
    clear hw0
    have HN0 : Hid (NeedAt w0 w.heap.size (.slice A0 cs.length cap0) n) := hb0
    have hl0 : w.heap.size < w0.heap.size := by omega
    clear hs0 hb0
    refine (table_any _ gs _ HM.out ((HGS.out.below (by repeat (first | exact Below.refl _ _ | assumption | refine Below.drew ?_ | refine Below.drewN ?_ _ | refine Below.allocT ?_ (Nat.le_refl _) _ | refine Below.setCell ?_ (by simp <;> omega) _ | refine Below.to ?_ (by assumption) (Nat.le_refl _)))).more (Below.size (by repeat (first | exact Below.refl _ _ | assumption | refine Below.drew ?_ | refine Below.drewN ?_ _ | refine Below.allocT ?_ (Nat.le_refl _) _ | refine Below.setCell ?_ (by simp <;> omega) _ | refine Below.to ?_ (by assumption) (Nat.le_refl _)))))).mono ?_
    rw [HD.out]
    rintro e w1 ⟨rfl, hB1⟩
    cases d with
    | false =>
      go_wp2_with fail
      go_ret2
      exact ⟨by simp [chooseVal, chooseErr, H20.out, HD.out], (by repeat (first | exact Below.refl _ _ | assumption | refine Below.drew ?_ | refine Below.drewN ?_ _ | refine Below.allocT ?_ (Nat.le_refl _) _ | refine Below.setCell ?_ (by simp <;> omega) _ | refine Below.to ?_ (by assumption) (Nat.le_refl _)))⟩
    | true =>
      obtain ⟨k0, k1, k2, k3, _⟩ := need4 (w1 := w1) HN0.out (by repeat (first | exact Below.refl _ _ | assumption | refine Below.drew ?_ | refine Below.drewN ?_ _ | refine Below.allocT ?_ (Nat.le_refl _) _ | refine Below.setCell ?_ (by simp <;> omega) _ | refine Below.to ?_ (by assumption) (Nat.le_refl _)))
      go_wp2_with fail
      refine (rneed_any n _ cs _ hn ((H.out.below (by repeat (first | exact Below.refl _ _ | assumption | refine Below.drew ?_ | refine Below.drewN ?_ _ | refine Below.allocT ?_ (Nat.le_refl _) _ | refine Below.setCell ?_ (by simp <;> omega) _ | refine Below.to ?_ (by assumption) (Nat.le_refl _)))).more (Below.size (by repeat (first | exact Below.refl _ _ | assumption | refine Below.drew ?_ | refine Below.drewN ?_ _ | refine Below.allocT ?_ (Nat.le_refl _) _ | refine Below.setCell ?_ (by simp <;> omega) _ | refine Below.to ?_ (by assumption) (Nat.le_refl _)))))).mono ?_
      rw [HNK.out]
      rintro e w2 ⟨rfl, hB2⟩
      clear k0 k1 k2 k3
      cases nk with
      | false =>
        go_wp2_with fail
        go_ret2
        exact ⟨by simp [chooseVal, chooseErr, H20.out, HD.out, HNK.out], (by repeat (first | exact Below.refl _ _ | assumption | refine Below.drew ?_ | refine Below.drewN ?_ _ | refine Below.allocT ?_ (Nat.le_refl _) _ | refine Below.setCell ?_ (by simp <;> omega) _ | refine Below.to ?_ (by assumption) (Nat.le_refl _)))⟩
      | true =>
        have HB2 : Hid (Below w0.heap.size w0 w2) := (by repeat (first | exact Below.refl _ _ | assumption | refine Below.drew ?_ | refine Below.drewN ?_ _ | refine Below.allocT ?_ (Nat.le_refl _) _ | refine Below.setCell ?_ (by simp <;> omega) _ | refine Below.to ?_ (by assumption) (Nat.le_refl _)))
        clear hB1 hB2
        go_wp2
        go_loopw [6] (fun i wr => ∃ k : Nat, k ≤ gs.length ∧ i = .int .i64 k ∧ Hid (∀ j, j < k → fitsB (gs.getD j Ga.z) n cs = false) ∧ Below w2.heap.size w2 wr) (fun i _ => gs.length - (intOf i).toNat)
        case atStart => exact ⟨0, Nat.zero_le _, rfl, fun j hj => by omega, Below.refl _ _⟩
        case round =>
          obtain ⟨k, hk, rfl, hz, hB⟩ := hrel
          have HB3 : Hid (Below w0.heap.size w0 wr) := Below.to HB2.out hB (Nat.le_refl _)
          have HB4 : Hid (Below w.heap.size w wr) := Below.to hB0 HB3.out (Nat.le_refl _)
          by_cases hlt : k < gs.length
          · obtain ⟨g, HZ, hA1, hbw, h0, h1, h2, h3, h4⟩ := gaAtB HB4.out HA.out HC.out hlt
            subst hA1
            obtain ⟨k0, k1, k2, k3, _⟩ := need4 HN0.out HB3.out
            have hlb : b < wr.heap.size := by have := HB4.out.size; omega
            have hlw : w.heap.size < wr.heap.size := by have := HB3.out.size; omega
            have hi0 : (0 : Int) ≤ (k : Int) := by omega
            have hi1 : (k : Int) < (gs.length : Int) := by omega
            have hgk : g.Ok := Ga.ok_iff.1 (by rw [← HZ.out]; exact tableB_get HD.out hlt)
            have HGK := hide hgk
            clear hgk
            obtain ⟨fb, hfb⟩ : ∃ x, fitsB g n cs = x := ⟨_, rfl⟩
            have HFB := hide hfb
            clear hfb
            go_wp2_with fail
            refine wp_region_held_drew (S := (fun w' => Below wr.heap.size wr w')) (by kernel_rfl) ?_ (fun hHeld => ?_)
            · try dsimp only
              exact (by repeat (first | exact Below.refl _ _ | assumption | refine Below.drew ?_ | refine Below.drewN ?_ _ | refine Below.allocT ?_ (Nat.le_refl _) _ | refine Below.setCell ?_ (by simp <;> omega) _ | refine Below.to ?_ (by assumption) (Nat.le_refl _)))
            refine wpAnyH_take (i := 0) (v := ?v2_0) rfl (by kernel_rfl) (by kernel_rfl) (by kernel_rfl) (fun _ _ _ h => h) (Or.inl ⟨by rfl, ?y2_0⟩) (by assumption) ?r2_0
            case' y2_0 => (intro w hSw; (try dsimp only at hSw); obtain ⟨hcS, hfS⟩ := bcell hSw; clear hSw; go_simp; try with_reducible rfl)
            try simp only [Act.put, List.getElem_toArray, List.getElem_cons_succ, List.getElem_cons_zero, List.setIfInBounds_toArray, List.set_cons_zero, List.set_cons_succ]
            refine wpAnyH_take (i := 1) (v := ?v2_1) rfl (by kernel_rfl) (by kernel_rfl) (by kernel_rfl) (fun _ _ _ h => h) (Or.inl ⟨by rfl, ?y2_1⟩) (by assumption) ?r2_1
            case' y2_1 => (intro w hSw; (try dsimp only at hSw); obtain ⟨hcS, hfS⟩ := bcell hSw; clear hSw; go_simp; try with_reducible rfl)
            try simp only [Act.put, List.getElem_toArray, List.getElem_cons_succ, List.getElem_cons_zero, List.setIfInBounds_toArray, List.set_cons_zero, List.set_cons_succ]
            refine wpAnyH_take (i := 2) (v := ?v2_2) rfl (by kernel_rfl) (by kernel_rfl) (by kernel_rfl) (fun _ _ _ h => h) (Or.inl ⟨by rfl, ?y2_2⟩) (by assumption) ?r2_2
            case' y2_2 => (intro w hSw; (try dsimp only at hSw); obtain ⟨hcS, hfS⟩ := bcell hSw; clear hSw; go_simp; try with_reducible rfl)
            try simp only [Act.put, List.getElem_toArray, List.getElem_cons_succ, List.getElem_cons_zero, List.setIfInBounds_toArray, List.set_cons_zero, List.set_cons_succ]
            refine wpAnyH_take (i := 3) (v := ?v2_3) rfl (by kernel_rfl) (by kernel_rfl) (by kernel_rfl) (fun _ _ _ h => h) (Or.inl ⟨by rfl, ?y2_3⟩) (by assumption) ?r2_3
            case' y2_3 => (intro w hSw; (try dsimp only at hSw); obtain ⟨hcS, hfS⟩ := bcell hSw; clear hSw; go_simp; try with_reducible rfl)
            try simp only [Act.put, List.getElem_toArray, List.getElem_cons_succ, List.getElem_cons_zero, List.setIfInBounds_toArray, List.set_cons_zero, List.set_cons_succ]
            refine wpAnyH_take (i := 4) (v := ?v2_4) rfl (by kernel_rfl) (by kernel_rfl) (by kernel_rfl) (fun _ _ _ h => h) (Or.inl ⟨by rfl, ?y2_4⟩) (by assumption) ?r2_4
            case' y2_4 => (intro w hSw; (try dsimp only at hSw); obtain ⟨hcS, hfS⟩ := bcell hSw; clear hSw; go_simp; try with_reducible rfl)
            try simp only [Act.put, List.getElem_toArray, List.getElem_cons_succ, List.getElem_cons_zero, List.setIfInBounds_toArray, List.set_cons_zero, List.set_cons_succ]
            refine wpAnyH_ready (rs := [5]) (by kernel_rfl) (by simp) ?_
            refine AllReadyH.cons rfl (fun K hK => ?_) AllReadyH.nil
            go_simp
            ((go_at_call 75; refine (rfits_any g n _ cs _ HGK.out (needOk_iff.1 HNK.out) ((H.out.below (Below.to HB4.out (by repeat (first | exact Below.refl _ _ | assumption | refine Below.drew ?_ | refine Below.drewN ?_ _ | refine Below.allocT ?_ (Nat.le_refl _) _ | refine Below.setCell ?_ (by simp <;> omega) _ | refine Below.to ?_ (by assumption) (Nat.le_refl _))) (Nat.le_refl _))).more (Below.size (Below.to HB4.out (by repeat (first | exact Below.refl _ _ | assumption | refine Below.drew ?_ | refine Below.drewN ?_ _ | refine Below.allocT ?_ (Nat.le_refl _) _ | refine Below.setCell ?_ (by simp <;> omega) _ | refine Below.to ?_ (by assumption) (Nat.le_refl _))) (Nat.le_refl _))))).mono ?_; rw [HFB.out]; rintro e w3 ⟨rfl, hB3⟩))
            (try dsimp only)
            refine hK.out _ _ ?_ (fun hNext => ?_)
            · try dsimp only
              exact (by repeat (first | exact Below.refl _ _ | assumption | refine Below.drew ?_ | refine Below.drewN ?_ _ | refine Below.allocT ?_ (Nat.le_refl _) _ | refine Below.setCell ?_ (by simp <;> omega) _ | refine Below.to ?_ (by assumption) (Nat.le_refl _)))
            clear hK K hHeld
            have hHeld := hNext
            clear hNext
            (try dsimp only at hHeld)
            try simp only [Act.put, List.getElem_toArray, List.getElem_cons_succ, List.getElem_cons_zero, List.setIfInBounds_toArray, List.set_cons_zero, List.set_cons_succ]
            refine wpAnyH_done (by kernel_rfl) ?_ _
            cases fb with
            | true =>
              go_wp2_with fail
              go_ret2
              have hix : chooseIx gs n cs = k := idxI_at _ Ga.z gs k hz.out hlt (by rw [HZ.out]; exact HFB.out)
              exact ⟨by simp [chooseVal, chooseErr, H20.out, HD.out, HNK.out, hix]; omega, Below.to HB4.out hHeld (Nat.le_refl _)⟩
            | false =>
              go_wp2_with fail
              go_roundw
              case rel => exact ⟨k + 1, by omega, by go_num, fun j hj => by
                  rcases Nat.lt_or_ge j k with h | h
                  · exact hz.out j h
                  · rw [show j = k from by omega, HZ.out]; exact HFB.out, (by repeat (first | exact Below.refl _ _ | assumption | refine Below.drew ?_ | refine Below.drewN ?_ _ | refine Below.allocT ?_ (Nat.le_refl _) _ | refine Below.setCell ?_ (by simp <;> omega) _ | refine Below.to ?_ (by assumption) (Nat.le_refl _)))⟩
              case measure => simp [intOf]; omega
          · go_wp2
            go_ret2
            have hix : chooseIx gs n cs = -1 := idxI_none _ Ga.z gs (fun j hj => hz.out j (by omega))
            exact ⟨by simp [chooseVal, chooseErr, H20.out, HD.out, HNK.out, hix], HB4.out⟩
end Go.Proofs.Ytejjjijaojkohaa

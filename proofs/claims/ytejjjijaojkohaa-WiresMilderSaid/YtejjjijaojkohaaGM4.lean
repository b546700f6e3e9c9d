/- Part 4 of this claim's texts: walks and plain laws. -/
import Derived.Test.YtejjjijaojkohaaRows
import Derived.Test.YtejjjijaojkohaaGM3
import Derived.Test.YtejjjijaojkohaaGM2
import Derived.Deep.RegionHeld3
import Derived.Deep.CutRange
import Derived.Deep.DrawnRows
/- Choose: both walks. -/
namespace Go.Proofs.Ytejjjijaojkohaa
open Go.RowKit
set_option linter.unusedVariables false
set_option linter.unusedSimpArgs false

theorem chooseF_any (g : Ga) (n : Ne) (nb : Nat) (v : Value) (cs : List Cu) (w : World) (hg : g.Ok) (hk : NeOk n cs) (hN : NeedAt w nb v n) (h : Cyc w w.heap.size v cs) :
    Calls Try.prog 79 #[.agg #[.int .i64 g.area, .int .i64 g.ohm, .int .i64 g.heat, .int .i64 g.cool, .int .i64 g.limit], .pointer (some ⟨nb, 0, none⟩)] w fun e w' => e = .returned (.bool (fitsB g n cs)) ∧ Below w.heap.size w w' := by
  have hl := box_lt hN
  have H := hide h
  obtain ⟨A0, cap0, rfl⟩ := h.form
  clear h
  have HN := hide hN
  obtain ⟨k0, k1, k2, k3, _⟩ := need4 hN (Below.refl _ w)
  clear hN
  have HK := hide hk
  have HG := hide hg
  clear hk hg
  go_enter Try.func79, Try.ntmps79
  go_wp2_with (go_at_call 73; refine (fits_any g n _ cs _ HG.out HK.out (H.out.up (by repeat (first | exact Below.refl _ _ | assumption | refine Below.drew ?_ | refine Below.drewN ?_ _ | refine Below.allocT ?_ (Nat.le_refl _) _ | refine Below.setCell ?_ (by simp <;> omega) _ | refine Below.to ?_ (by assumption) (Nat.le_refl _))))).mono ?_; rintro e w1 ⟨rfl, hB1⟩)
  go_ret
  exact ⟨rfl, (by repeat (first | exact Below.refl _ _ | assumption | refine Below.drew ?_ | refine Below.drewN ?_ _ | refine Below.allocT ?_ (Nat.le_refl _) _ | refine Below.setCell ?_ (by simp <;> omega) _ | refine Below.to ?_ (by assumption) (Nat.le_refl _)))⟩

def chooseIx (gs : List Ga) (n : Ne) (cs : List Cu) : Int := idxI (fun g => fitsB g n cs) gs
def chooseErr (gs : List Ga) (n : Ne) (cs : List Cu) : Int := if 20 < gs.length then 2 else if tableB gs then if needOk n cs then if chooseIx gs n cs < 0 then 3 else 0 else 71 else 70
def chooseVal (gs : List Ga) (n : Ne) (cs : List Cu) : Int := if 20 < gs.length then 0 else if tableB gs then if needOk n cs then if chooseIx gs n cs < 0 then 0 else chooseIx gs n cs else 0 else 0

set_option maxRecDepth 100000 in
theorem Choose_any (gs : List Ga) (n : Ne) (gv v : Value) (cs : List Cu) (w : World) (hm : gs.length ≤ maxLen) (hn : cs.length ≤ 20) (hG : Gas w w.heap.size gv gs) (h : Cyc w w.heap.size v cs) :
    Calls Try.prog 35 #[gv, .agg #[v, .int .i64 n.len, .int .i64 n.drop, .int .i64 n.amb]] w fun e w' => e = .returned (.tuple #[.int .i64 (chooseVal gs n cs), .int .i64 (chooseErr gs n cs)]) ∧ Below w.heap.size w w' := by
  have H := hide h
  obtain ⟨A0, cap0, rfl⟩ := h.form
  clear h
  have HGS := hide hG
  obtain ⟨A1, cap1, rfl⟩ := Sl.form hG
  clear hG
  have HM := hide hm
  unfold maxLen at hm
  obtain ⟨x, hx⟩ : ∃ x : Int, (if decide (20 < gs.length) then (2 : Int) else 0) = x := ⟨_, rfl⟩
  obtain ⟨y, hy⟩ : ∃ y, gasErr gs = y := ⟨_, rfl⟩
  obtain ⟨z, hz⟩ : ∃ z, needErr n cs = z := ⟨_, rfl⟩
  obtain ⟨u, hu⟩ : ∃ u : Int, (if x = 0 then if y = 0 then z else y else x) = u := ⟨_, rfl⟩
  obtain ⟨ix, hix⟩ : ∃ i : Int, chooseIx gs n cs = i := ⟨_, rfl⟩
  obtain ⟨d, hd⟩ : ∃ d : Bool, decide (20 < gs.length) = d := ⟨_, rfl⟩
  have HD := hide hd
  have HX : Hid ((if d then (2 : Int) else 0) = x) := by show _ = _; rw [← hd]; exact hx
  have HY := hide hy
  have HZ := hide hz
  have HU := hide hu
  have HIX := hide hix
  have hE0 : u = 0 → tableB gs = true ∧ needOk n cs = true ∧ chooseErr gs n cs = (if ix < 0 then 3 else 0) ∧ chooseVal gs n cs = (if ix < 0 then 0 else ix) := by
    intro h0
    rw [← hu, ← hx, ← hy, ← hz] at h0
    unfold chooseErr chooseVal
    rw [hix]
    unfold gasErr needErr at h0
    by_cases h20 : 20 < gs.length
    · simp [h20] at h0
    · cases ht : tableB gs <;> cases hn2 : needOk n cs <;> simp [h20, ht, hn2] at h0 ⊢
  have hE1 : u ≠ 0 → chooseErr gs n cs = u ∧ chooseVal gs n cs = 0 := by
    intro h0
    rw [← hu, ← hx, ← hy, ← hz] at h0 ⊢
    unfold chooseErr chooseVal
    unfold gasErr needErr at h0 ⊢
    by_cases h20 : 20 < gs.length
    · simp [h20]
    · cases ht : tableB gs <;> cases hn2 : needOk n cs <;> simp [h20, ht, hn2] at h0 ⊢
  have HE0 := hide hE0
  have HE1 := hide hE1
  clear hx hy hz hu hix hE0 hE1
  go_enter Try.func35, Try.ntmps35
  go_wp2_with fail
  generalize hw0 : World.alloc _ _ = w0
  obtain ⟨hb0, hB0, hs0⟩ := alloc1 hw0
  clear hw0
  have HN0 : Hid (NeedAt w0 w.heap.size (.slice A0 cs.length cap0) n) := hb0
  have k0 := cellOf hb0 0
  have k1 := cellOf hb0 1
  have k2 := cellOf hb0 2
  have k3 := cellOf hb0 3
  have hl0 : w.heap.size < w0.heap.size := by omega
  clear hs0
  have hd2 : decide ((20 : Int) < (gs.length : Int)) = d := by rw [← hd]; rw [decide_eq_decide]; omega
  clear hd
  refine wp_region_held_drew (S := (fun w' => Below w0.heap.size w0 w')) (by kernel_rfl) ?_ (fun hHeld => ?_)
  · try dsimp only
    exact (by repeat (first | exact Below.refl _ _ | assumption | refine Below.drew ?_ | refine Below.drewN ?_ _ | refine Below.allocT ?_ (Nat.le_refl _) _ | refine Below.setCell ?_ (by simp <;> omega) _ | refine Below.to ?_ (by assumption) (Nat.le_refl _)))
  refine wpAnyH_take (i := 0) (v := ?v1_0) rfl (by kernel_rfl) (by kernel_rfl) (by kernel_rfl) (fun _ _ _ h => h) (Or.inl ⟨by rfl, ?y1_0⟩) (by assumption) ?r1_0
  case' y1_0 => (intro w hSw; (try dsimp only at hSw); (try have hlS := HLK.out _ hSw); obtain ⟨hcS, hfS⟩ := bcell hSw; clear hSw; go_simp; try with_reducible rfl)
  try simp only [Act.put, List.getElem_toArray, List.getElem_cons_succ, List.getElem_cons_zero, List.setIfInBounds_toArray, List.set_cons_zero, List.set_cons_succ]
  refine wpAnyH_take (i := 1) (v := ?v1_1) rfl (by kernel_rfl) (by kernel_rfl) (by kernel_rfl) (fun _ _ _ h => h) (Or.inl ⟨by rfl, ?y1_1⟩) (by assumption) ?r1_1
  case' y1_1 => (intro w hSw; (try dsimp only at hSw); (try have hlS := HLK.out _ hSw); obtain ⟨hcS, hfS⟩ := bcell hSw; clear hSw; go_simp; try with_reducible rfl)
  try simp only [Act.put, List.getElem_toArray, List.getElem_cons_succ, List.getElem_cons_zero, List.setIfInBounds_toArray, List.set_cons_zero, List.set_cons_succ]
  refine wpAnyH_take (i := 2) (v := ?v1_2) rfl (by kernel_rfl) (by kernel_rfl) (by kernel_rfl) (fun _ _ _ h => h) (Or.inl ⟨by rfl, ?y1_2⟩) (by assumption) ?r1_2
  case' y1_2 => (intro w hSw; (try dsimp only at hSw); (try have hlS := HLK.out _ hSw); obtain ⟨hcS, hfS⟩ := bcell hSw; clear hSw; go_simp; try with_reducible rfl)
  try simp only [Act.put, List.getElem_toArray, List.getElem_cons_succ, List.getElem_cons_zero, List.setIfInBounds_toArray, List.set_cons_zero, List.set_cons_succ]
  refine wpAnyH_take (i := 4) (v := ?v1_4) rfl (by kernel_rfl) (by kernel_rfl) (by kernel_rfl) (fun _ _ _ h => h) (Or.inl ⟨by rfl, ?y1_4⟩) (by assumption) ?r1_4
  case' y1_4 => (intro w hSw; (try dsimp only at hSw); (try have hlS := HLK.out _ hSw); obtain ⟨hcS, hfS⟩ := bcell hSw; clear hSw; go_simp; try with_reducible rfl)
  try simp only [Act.put, List.getElem_toArray, List.getElem_cons_succ, List.getElem_cons_zero, List.setIfInBounds_toArray, List.set_cons_zero, List.set_cons_succ]
  refine wpAnyH_take (i := 6) (v := ?v1_6) rfl (by kernel_rfl) (by kernel_rfl) (by kernel_rfl) (fun _ _ _ h => h) (Or.inl ⟨by rfl, ?y1_6⟩) (by assumption) ?r1_6
  case' y1_6 => (intro w hSw; (try dsimp only at hSw); (try have hlS := HLK.out _ hSw); obtain ⟨hcS, hfS⟩ := bcell hSw; clear hSw; go_simp; try with_reducible rfl)
  try simp only [Act.put, List.getElem_toArray, List.getElem_cons_succ, List.getElem_cons_zero, List.setIfInBounds_toArray, List.set_cons_zero, List.set_cons_succ]
  refine wpAnyH_ready (rs := [3]) (by kernel_rfl) (by simp) ?_
  refine AllReadyH.cons rfl (fun K hK => ?_) AllReadyH.nil
  go_simp
  (first | (go_at_call 76; refine (many_any _ _).mono ?_; rw [HX.out]; rintro e w1 ⟨rfl, rfl⟩) | (go_at_call 77; refine (checkGauges_any _ gs _ HM.out ((HGS.out.below (by repeat (first | exact Below.refl _ _ | assumption | refine Below.drew ?_ | refine Below.drewN ?_ _ | refine Below.allocT ?_ (Nat.le_refl _) _ | refine Below.setCell ?_ (by simp <;> omega) _ | refine Below.to ?_ (by assumption) (Nat.le_refl _)))).more (Below.size (by repeat (first | exact Below.refl _ _ | assumption | refine Below.drew ?_ | refine Below.drewN ?_ _ | refine Below.allocT ?_ (Nat.le_refl _) _ | refine Below.setCell ?_ (by simp <;> omega) _ | refine Below.to ?_ (by assumption) (Nat.le_refl _)))))).mono ?_; rw [HY.out]; rintro e w2 ⟨rfl, hB2⟩) | (go_at_call 72; refine (checkNeed_any n _ cs _ hn ((H.out.below (by repeat (first | exact Below.refl _ _ | assumption | refine Below.drew ?_ | refine Below.drewN ?_ _ | refine Below.allocT ?_ (Nat.le_refl _) _ | refine Below.setCell ?_ (by simp <;> omega) _ | refine Below.to ?_ (by assumption) (Nat.le_refl _)))).more (Below.size (by repeat (first | exact Below.refl _ _ | assumption | refine Below.drew ?_ | refine Below.drewN ?_ _ | refine Below.allocT ?_ (Nat.le_refl _) _ | refine Below.setCell ?_ (by simp <;> omega) _ | refine Below.to ?_ (by assumption) (Nat.le_refl _)))))).mono ?_; rw [HZ.out]; rintro e w3 ⟨rfl, hB3⟩) | (go_at_call 58; refine (errors3v _ x y z u _ (by simp) (by simp) (by simp) HU.out).mono ?_; rintro e w4 ⟨rfl, rfl⟩))
  (try dsimp only)
  refine hK.out _ _ ?_ (fun hNext => ?_)
  · try dsimp only
    exact (by repeat (first | exact Below.refl _ _ | assumption | refine Below.drew ?_ | refine Below.drewN ?_ _ | refine Below.allocT ?_ (Nat.le_refl _) _ | refine Below.setCell ?_ (by simp <;> omega) _ | refine Below.to ?_ (by assumption) (Nat.le_refl _)))
  clear hK K hHeld
  have hHeld := hNext
  clear hNext
  (try dsimp only at hHeld)
  try simp only [Act.put, List.getElem_toArray, List.getElem_cons_succ, List.getElem_cons_zero, List.setIfInBounds_toArray, List.set_cons_zero, List.set_cons_succ]
  refine wpAnyH_ready (rs := [5]) (by kernel_rfl) (by simp) ?_
  refine AllReadyH.cons rfl (fun K hK => ?_) AllReadyH.nil
  go_simp
  (first | (go_at_call 76; refine (many_any _ _).mono ?_; rw [HX.out]; rintro e w1 ⟨rfl, rfl⟩) | (go_at_call 77; refine (checkGauges_any _ gs _ HM.out ((HGS.out.below (by repeat (first | exact Below.refl _ _ | assumption | refine Below.drew ?_ | refine Below.drewN ?_ _ | refine Below.allocT ?_ (Nat.le_refl _) _ | refine Below.setCell ?_ (by simp <;> omega) _ | refine Below.to ?_ (by assumption) (Nat.le_refl _)))).more (Below.size (by repeat (first | exact Below.refl _ _ | assumption | refine Below.drew ?_ | refine Below.drewN ?_ _ | refine Below.allocT ?_ (Nat.le_refl _) _ | refine Below.setCell ?_ (by simp <;> omega) _ | refine Below.to ?_ (by assumption) (Nat.le_refl _)))))).mono ?_; rw [HY.out]; rintro e w2 ⟨rfl, hB2⟩) | (go_at_call 72; refine (checkNeed_any n _ cs _ hn ((H.out.below (by repeat (first | exact Below.refl _ _ | assumption | refine Below.drew ?_ | refine Below.drewN ?_ _ | refine Below.allocT ?_ (Nat.le_refl _) _ | refine Below.setCell ?_ (by simp <;> omega) _ | refine Below.to ?_ (by assumption) (Nat.le_refl _)))).more (Below.size (by repeat (first | exact Below.refl _ _ | assumption | refine Below.drew ?_ | refine Below.drewN ?_ _ | refine Below.allocT ?_ (Nat.le_refl _) _ | refine Below.setCell ?_ (by simp <;> omega) _ | refine Below.to ?_ (by assumption) (Nat.le_refl _)))))).mono ?_; rw [HZ.out]; rintro e w3 ⟨rfl, hB3⟩) | (go_at_call 58; refine (errors3v _ x y z u _ (by simp) (by simp) (by simp) HU.out).mono ?_; rintro e w4 ⟨rfl, rfl⟩))
  (try dsimp only)
  refine hK.out _ _ ?_ (fun hNext => ?_)
  · try dsimp only
    exact (by repeat (first | exact Below.refl _ _ | assumption | refine Below.drew ?_ | refine Below.drewN ?_ _ | refine Below.allocT ?_ (Nat.le_refl _) _ | refine Below.setCell ?_ (by simp <;> omega) _ | refine Below.to ?_ (by assumption) (Nat.le_refl _)))
  clear hK K hHeld
  have hHeld := hNext
  clear hNext
  (try dsimp only at hHeld)
  try simp only [Act.put, List.getElem_toArray, List.getElem_cons_succ, List.getElem_cons_zero, List.setIfInBounds_toArray, List.set_cons_zero, List.set_cons_succ]
  refine wpAnyH_ready (rs := [7]) (by kernel_rfl) (by simp) ?_
  refine AllReadyH.cons rfl (fun K hK => ?_) AllReadyH.nil
  go_simp
  (first | (go_at_call 76; refine (many_any _ _).mono ?_; rw [HX.out]; rintro e w1 ⟨rfl, rfl⟩) | (go_at_call 77; refine (checkGauges_any _ gs _ HM.out ((HGS.out.below (by repeat (first | exact Below.refl _ _ | assumption | refine Below.drew ?_ | refine Below.drewN ?_ _ | refine Below.allocT ?_ (Nat.le_refl _) _ | refine Below.setCell ?_ (by simp <;> omega) _ | refine Below.to ?_ (by assumption) (Nat.le_refl _)))).more (Below.size (by repeat (first | exact Below.refl _ _ | assumption | refine Below.drew ?_ | refine Below.drewN ?_ _ | refine Below.allocT ?_ (Nat.le_refl _) _ | refine Below.setCell ?_ (by simp <;> omega) _ | refine Below.to ?_ (by assumption) (Nat.le_refl _)))))).mono ?_; rw [HY.out]; rintro e w2 ⟨rfl, hB2⟩) | (go_at_call 72; refine (checkNeed_any n _ cs _ hn ((H.out.below (by repeat (first | exact Below.refl _ _ | assumption | refine Below.drew ?_ | refine Below.drewN ?_ _ | refine Below.allocT ?_ (Nat.le_refl _) _ | refine Below.setCell ?_ (by simp <;> omega) _ | refine Below.to ?_ (by assumption) (Nat.le_refl _)))).more (Below.size (by repeat (first | exact Below.refl _ _ | assumption | refine Below.drew ?_ | refine Below.drewN ?_ _ | refine Below.allocT ?_ (Nat.le_refl _) _ | refine Below.setCell ?_ (by simp <;> omega) _ | refine Below.to ?_ (by assumption) (Nat.le_refl _)))))).mono ?_; rw [HZ.out]; rintro e w3 ⟨rfl, hB3⟩) | (go_at_call 58; refine (errors3v _ x y z u _ (by simp) (by simp) (by simp) HU.out).mono ?_; rintro e w4 ⟨rfl, rfl⟩))
  (try dsimp only)
  refine hK.out _ _ ?_ (fun hNext => ?_)
  · try dsimp only
    exact (by repeat (first | exact Below.refl _ _ | assumption | refine Below.drew ?_ | refine Below.drewN ?_ _ | refine Below.allocT ?_ (Nat.le_refl _) _ | refine Below.setCell ?_ (by simp <;> omega) _ | refine Below.to ?_ (by assumption) (Nat.le_refl _)))
  clear hK K hHeld
  have hHeld := hNext
  clear hNext
  (try dsimp only at hHeld)
  try simp only [Act.put, List.getElem_toArray, List.getElem_cons_succ, List.getElem_cons_zero, List.setIfInBounds_toArray, List.set_cons_zero, List.set_cons_succ]
  refine wpAnyH_ready (rs := [8]) (by kernel_rfl) (by simp) ?_
  refine AllReadyH.cons rfl (fun K hK => ?_) AllReadyH.nil
  go_simp
  refine hK.out _ _ ?_ (fun hNext => ?_)
  · try dsimp only
    exact (by repeat (first | exact Below.refl _ _ | assumption | refine Below.drew ?_ | refine Below.drewN ?_ _ | refine Below.allocT ?_ (Nat.le_refl _) _ | refine Below.setCell ?_ (by simp <;> omega) _ | refine Below.to ?_ (by assumption) (Nat.le_refl _)))
  clear hK K hHeld
  have hHeld := hNext
  clear hNext
  (try dsimp only at hHeld)
  try simp only [Act.put, List.getElem_toArray, List.getElem_cons_succ, List.getElem_cons_zero, List.setIfInBounds_toArray, List.set_cons_zero, List.set_cons_succ]
  refine wpAnyH_ready (rs := [9]) (by kernel_rfl) (by simp) ?_
  refine AllReadyH.cons rfl (fun K hK => ?_) AllReadyH.nil
  go_simp
  (first | (go_at_call 76; refine (many_any _ _).mono ?_; rw [HX.out]; rintro e w1 ⟨rfl, rfl⟩) | (go_at_call 77; refine (checkGauges_any _ gs _ HM.out ((HGS.out.below (by repeat (first | exact Below.refl _ _ | assumption | refine Below.drew ?_ | refine Below.drewN ?_ _ | refine Below.allocT ?_ (Nat.le_refl _) _ | refine Below.setCell ?_ (by simp <;> omega) _ | refine Below.to ?_ (by assumption) (Nat.le_refl _)))).more (Below.size (by repeat (first | exact Below.refl _ _ | assumption | refine Below.drew ?_ | refine Below.drewN ?_ _ | refine Below.allocT ?_ (Nat.le_refl _) _ | refine Below.setCell ?_ (by simp <;> omega) _ | refine Below.to ?_ (by assumption) (Nat.le_refl _)))))).mono ?_; rw [HY.out]; rintro e w2 ⟨rfl, hB2⟩) | (go_at_call 72; refine (checkNeed_any n _ cs _ hn ((H.out.below (by repeat (first | exact Below.refl _ _ | assumption | refine Below.drew ?_ | refine Below.drewN ?_ _ | refine Below.allocT ?_ (Nat.le_refl _) _ | refine Below.setCell ?_ (by simp <;> omega) _ | refine Below.to ?_ (by assumption) (Nat.le_refl _)))).more (Below.size (by repeat (first | exact Below.refl _ _ | assumption | refine Below.drew ?_ | refine Below.drewN ?_ _ | refine Below.allocT ?_ (Nat.le_refl _) _ | refine Below.setCell ?_ (by simp <;> omega) _ | refine Below.to ?_ (by assumption) (Nat.le_refl _)))))).mono ?_; rw [HZ.out]; rintro e w3 ⟨rfl, hB3⟩) | (go_at_call 58; refine (errors3v _ x y z u _ (by simp) (by simp) (by simp) HU.out).mono ?_; rintro e w4 ⟨rfl, rfl⟩))
  (try dsimp only)
  refine hK.out _ _ ?_ (fun hNext => ?_)
  · try dsimp only
    exact (by repeat (first | exact Below.refl _ _ | assumption | refine Below.drew ?_ | refine Below.drewN ?_ _ | refine Below.allocT ?_ (Nat.le_refl _) _ | refine Below.setCell ?_ (by simp <;> omega) _ | refine Below.to ?_ (by assumption) (Nat.le_refl _)))
  clear hK K hHeld
  have hHeld := hNext
  clear hNext
  (try dsimp only at hHeld)
  try simp only [Act.put, List.getElem_toArray, List.getElem_cons_succ, List.getElem_cons_zero, List.setIfInBounds_toArray, List.set_cons_zero, List.set_cons_succ]
  refine wpAnyH_take (i := 10) (v := ?v1_10) rfl (by kernel_rfl) (by kernel_rfl) (by kernel_rfl) (fun _ _ _ h => h) (Or.inl ⟨by rfl, ?y1_10⟩) (by assumption) ?r1_10
  case' y1_10 => (intro w hSw; (try dsimp only at hSw); (try have hlS := HLK.out _ hSw); obtain ⟨hcS, hfS⟩ := bcell hSw; clear hSw; go_simp; try with_reducible rfl)
  try simp only [Act.put, List.getElem_toArray, List.getElem_cons_succ, List.getElem_cons_zero, List.setIfInBounds_toArray, List.set_cons_zero, List.set_cons_succ]
  refine wpAnyH_done (by kernel_rfl) ?_ _
  by_cases hu0 : u = 0
  · obtain ⟨ht, hnk, he, hv⟩ := HE0.out hu0
    have HT := hide ht
    have HNK := hide (needOk_iff.1 hnk)
    have HE := hide he
    have HV := hide hv
    clear ht hnk he hv
    have hu1 : (u != 0) = false := by simp [hu0]
    have HU0 := hide hu0
    clear hu0
    go_wp2_with (go_at_call 78; refine (index_choose (fun g => fitsB g n cs) _ _ gs _ HM.out ((HGS.out.below (by repeat (first | exact Below.refl _ _ | assumption | refine Below.drew ?_ | refine Below.drewN ?_ _ | refine Below.allocT ?_ (Nat.le_refl _) _ | refine Below.setCell ?_ (by simp <;> omega) _ | refine Below.to ?_ (by assumption) (Nat.le_refl _)))).more (Below.size (by repeat (first | exact Below.refl _ _ | assumption | refine Below.drew ?_ | refine Below.drewN ?_ _ | refine Below.allocT ?_ (Nat.le_refl _) _ | refine Below.setCell ?_ (by simp <;> omega) _ | refine Below.to ?_ (by assumption) (Nat.le_refl _))))) (fun i g W hi hg hBW => chooseF_any g n w.heap.size _ cs W (Ga.ok_iff.1 (by rw [← hg]; exact tableB_get HT.out hi)) HNK.out (box_to HN0.out (show Below w0.heap.size w0 W from Below.to hHeld hBW (Nat.le_refl _))) ((H.out.below (show Below w.heap.size w W from Below.to (by repeat (first | exact Below.refl _ _ | assumption | refine Below.drew ?_ | refine Below.drewN ?_ _ | refine Below.allocT ?_ (Nat.le_refl _) _ | refine Below.setCell ?_ (by simp <;> omega) _ | refine Below.to ?_ (by assumption) (Nat.le_refl _))) hBW (Nat.le_refl _))).more (Below.size (show Below w.heap.size w W from Below.to (by repeat (first | exact Below.refl _ _ | assumption | refine Below.drew ?_ | refine Below.drewN ?_ _ | refine Below.allocT ?_ (Nat.le_refl _) _ | refine Below.setCell ?_ (by simp <;> omega) _ | refine Below.to ?_ (by assumption) (Nat.le_refl _))) hBW (Nat.le_refl _)))))).mono ?_; rw [show idxI (fun g => fitsB g n cs) gs = ix from HIX.out]; rintro e w5 ⟨rfl, hB5⟩)
    all_goals
      go_ret2
      exact ⟨by rw [HE.out, HV.out]; simp [*]; try omega, (by repeat (first | exact Below.refl _ _ | assumption | refine Below.drew ?_ | refine Below.drewN ?_ _ | refine Below.allocT ?_ (Nat.le_refl _) _ | refine Below.setCell ?_ (by simp <;> omega) _ | refine Below.to ?_ (by assumption) (Nat.le_refl _)))⟩
  · obtain ⟨he, hv⟩ := HE1.out hu0
    have hu1 : (u != 0) = true := by simp [hu0]
    have HE := hide he
    have HV := hide hv
    clear he hv hu0
    go_wp2_with fail
    go_ret2
    exact ⟨by rw [HE.out, HV.out]; rfl, (by repeat (first | exact Below.refl _ _ | assumption | refine Below.drew ?_ | refine Below.drewN ?_ _ | refine Below.allocT ?_ (Nat.le_refl _) _ | refine Below.setCell ?_ (by simp <;> omega) _ | refine Below.to ?_ (by assumption) (Nat.le_refl _)))⟩

set_option maxRecDepth 100000 in
theorem rChoose_any (gs : List Ga) (n : Ne) (gv v : Value) (cs : List Cu) (w : World) (hm : gs.length ≤ maxLen) (hn : cs.length ≤ 20) (hG : Gas w w.heap.size gv gs) (h : Cyc w w.heap.size v cs) :
    Calls Try.prog 36 #[gv, .agg #[v, .int .i64 n.len, .int .i64 n.drop, .int .i64 n.amb]] w fun e w' => e = .returned (.tuple #[.int .i64 (chooseVal gs n cs), .int .i64 (chooseErr gs n cs)]) ∧ Below w.heap.size w w' := by
  have H := hide h
  obtain ⟨A0, cap0, rfl⟩ := h.form
  clear h
  have HGS := hide hG
  obtain ⟨A1, b, off, cap1, rfl, hnc, hA, hc⟩ := hG
  have HC := hide hc; clear hc
  have HA := hide hA; clear hA
  have HM := hide hm
  unfold maxLen at hm
  obtain ⟨d, hd⟩ : ∃ d : Bool, tableB gs = d := ⟨_, rfl⟩
  obtain ⟨nk, hnk⟩ : ∃ d : Bool, needOk n cs = d := ⟨_, rfl⟩
  have HD := hide hd
  have HNK := hide hnk
  clear hd hnk
  by_cases h20 : 20 < gs.length
  · go_enter Try.func36, Try.ntmps36
    go_wp2_with fail
    go_ret2
    exact ⟨by simp [chooseVal, chooseErr, h20], (by repeat (first | exact Below.refl _ _ | assumption | refine Below.drew ?_ | refine Below.drewN ?_ _ | refine Below.allocT ?_ (Nat.le_refl _) _ | refine Below.setCell ?_ (by simp <;> omega) _ | refine Below.to ?_ (by assumption) (Nat.le_refl _)))⟩
  · have H20 := hide h20
    have h20' : gs.length ≤ 20 := by omega
    clear h20
    go_enter Try.func36, Try.ntmps36
    go_wp2_with fail
    generalize hw0 : World.alloc _ _ = w0
    obtain ⟨hb0, hB0, hs0⟩ := alloc1 hw0
    clear hw0
    have HN0 : Hid (NeedAt w0 w.heap.size (.slice A0 cs.length cap0) n) := hb0
    have hl0 : w.heap.size < w0.heap.size := by omega
    clear hs0 hb0
    refine (table_any _ gs _ HM.out ((HGS.out.below (by repeat (first | exact Below.refl _ _ | assumption | refine Below.drew ?_ | refine Below.drewN ?_ _ | refine Below.allocT ?_ (Nat.le_refl _) _ | refine Below.setCell ?_ (by simp <;> omega) _ | refine Below.to ?_ (by assumption) (Nat.le_refl _)))).more (Below.size (by repeat (first | exact Below.refl _ _ | assumption | refine Below.drew ?_ | refine Below.drewN ?_ _ | refine Below.allocT ?_ (Nat.le_refl _) _ | refine Below.setCell ?_ (by simp <;> omega) _ | refine Below.to ?_ (by assumption) (Nat.le_refl _)))))).mono ?_
    rw [HD.out]
    rintro e w1 ⟨rfl, hB1⟩
    cases d with
    | false =>
      go_wp2_with fail
      go_ret2
      exact ⟨by simp [chooseVal, chooseErr, H20.out, HD.out], (by repeat (first | exact Below.refl _ _ | assumption | refine Below.drew ?_ | refine Below.drewN ?_ _ | refine Below.allocT ?_ (Nat.le_refl _) _ | refine Below.setCell ?_ (by simp <;> omega) _ | refine Below.to ?_ (by assumption) (Nat.le_refl _)))⟩
    | true =>
      obtain ⟨k0, k1, k2, k3, _⟩ := need4 (w1 := w1) HN0.out (by repeat (first | exact Below.refl _ _ | assumption | refine Below.drew ?_ | refine Below.drewN ?_ _ | refine Below.allocT ?_ (Nat.le_refl _) _ | refine Below.setCell ?_ (by simp <;> omega) _ | refine Below.to ?_ (by assumption) (Nat.le_refl _)))
      go_wp2_with fail
      refine (rneed_any n _ cs _ hn ((H.out.below (by repeat (first | exact Below.refl _ _ | assumption | refine Below.drew ?_ | refine Below.drewN ?_ _ | refine Below.allocT ?_ (Nat.le_refl _) _ | refine Below.setCell ?_ (by simp <;> omega) _ | refine Below.to ?_ (by assumption) (Nat.le_refl _)))).more (Below.size (by repeat (first | exact Below.refl _ _ | assumption | refine Below.drew ?_ | refine Below.drewN ?_ _ | refine Below.allocT ?_ (Nat.le_refl _) _ | refine Below.setCell ?_ (by simp <;> omega) _ | refine Below.to ?_ (by assumption) (Nat.le_refl _)))))).mono ?_
      rw [HNK.out]
      rintro e w2 ⟨rfl, hB2⟩
      clear k0 k1 k2 k3
      cases nk with
      | false =>
        go_wp2_with fail
        go_ret2
        exact ⟨by simp [chooseVal, chooseErr, H20.out, HD.out, HNK.out], (by repeat (first | exact Below.refl _ _ | assumption | refine Below.drew ?_ | refine Below.drewN ?_ _ | refine Below.allocT ?_ (Nat.le_refl _) _ | refine Below.setCell ?_ (by simp <;> omega) _ | refine Below.to ?_ (by assumption) (Nat.le_refl _)))⟩
      | true =>
        have HB2 : Hid (Below w0.heap.size w0 w2) := (by repeat (first | exact Below.refl _ _ | assumption | refine Below.drew ?_ | refine Below.drewN ?_ _ | refine Below.allocT ?_ (Nat.le_refl _) _ | refine Below.setCell ?_ (by simp <;> omega) _ | refine Below.to ?_ (by assumption) (Nat.le_refl _)))
        clear hB1 hB2
        go_wp2
        go_loopw [6] (fun i wr => ∃ k : Nat, k ≤ gs.length ∧ i = .int .i64 k ∧ Hid (∀ j, j < k → fitsB (gs.getD j Ga.z) n cs = false) ∧ Below w2.heap.size w2 wr) (fun i _ => gs.length - (intOf i).toNat)
        case atStart => exact ⟨0, Nat.zero_le _, rfl, fun j hj => by omega, Below.refl _ _⟩
        case round =>
          obtain ⟨k, hk, rfl, hz, hB⟩ := hrel
          have HB3 : Hid (Below w0.heap.size w0 wr) := Below.to HB2.out hB (Nat.le_refl _)
          have HB4 : Hid (Below w.heap.size w wr) := Below.to hB0 HB3.out (Nat.le_refl _)
          by_cases hlt : k < gs.length
          · obtain ⟨g, HZ, hA1, hbw, h0, h1, h2, h3, h4⟩ := gaAtB HB4.out HA.out HC.out hlt
            subst hA1
            obtain ⟨k0, k1, k2, k3, _⟩ := need4 HN0.out HB3.out
            have hlb : b < wr.heap.size := by have := HB4.out.size; omega
            have hlw : w.heap.size < wr.heap.size := by have := HB3.out.size; omega
            have hi0 : (0 : Int) ≤ (k : Int) := by omega
            have hi1 : (k : Int) < (gs.length : Int) := by omega
            have hgk : g.Ok := Ga.ok_iff.1 (by rw [← HZ.out]; exact tableB_get HD.out hlt)
            have HGK := hide hgk
            clear hgk
            obtain ⟨fb, hfb⟩ : ∃ x, fitsB g n cs = x := ⟨_, rfl⟩
            have HFB := hide hfb
            clear hfb
            go_wp2_with fail
            refine wp_region_held_drew (S := (fun w' => Below wr.heap.size wr w')) (by kernel_rfl) ?_ (fun hHeld => ?_)
            · try dsimp only
              exact (by repeat (first | exact Below.refl _ _ | assumption | refine Below.drew ?_ | refine Below.drewN ?_ _ | refine Below.allocT ?_ (Nat.le_refl _) _ | refine Below.setCell ?_ (by simp <;> omega) _ | refine Below.to ?_ (by assumption) (Nat.le_refl _)))
            refine wpAnyH_take (i := 0) (v := ?v2_0) rfl (by kernel_rfl) (by kernel_rfl) (by kernel_rfl) (fun _ _ _ h => h) (Or.inl ⟨by rfl, ?y2_0⟩) (by assumption) ?r2_0
            case' y2_0 => (intro w hSw; (try dsimp only at hSw); (try have hlS := HLK.out _ hSw); obtain ⟨hcS, hfS⟩ := bcell hSw; clear hSw; go_simp; try with_reducible rfl)
            try simp only [Act.put, List.getElem_toArray, List.getElem_cons_succ, List.getElem_cons_zero, List.setIfInBounds_toArray, List.set_cons_zero, List.set_cons_succ]
            refine wpAnyH_take (i := 1) (v := ?v2_1) rfl (by kernel_rfl) (by kernel_rfl) (by kernel_rfl) (fun _ _ _ h => h) (Or.inl ⟨by rfl, ?y2_1⟩) (by assumption) ?r2_1
            case' y2_1 => (intro w hSw; (try dsimp only at hSw); (try have hlS := HLK.out _ hSw); obtain ⟨hcS, hfS⟩ := bcell hSw; clear hSw; go_simp; try with_reducible rfl)
            try simp only [Act.put, List.getElem_toArray, List.getElem_cons_succ, List.getElem_cons_zero, List.setIfInBounds_toArray, List.set_cons_zero, List.set_cons_succ]
            refine wpAnyH_take (i := 2) (v := ?v2_2) rfl (by kernel_rfl) (by kernel_rfl) (by kernel_rfl) (fun _ _ _ h => h) (Or.inl ⟨by rfl, ?y2_2⟩) (by assumption) ?r2_2
            case' y2_2 => (intro w hSw; (try dsimp only at hSw); (try have hlS := HLK.out _ hSw); obtain ⟨hcS, hfS⟩ := bcell hSw; clear hSw; go_simp; try with_reducible rfl)
            try simp only [Act.put, List.getElem_toArray, List.getElem_cons_succ, List.getElem_cons_zero, List.setIfInBounds_toArray, List.set_cons_zero, List.set_cons_succ]
            refine wpAnyH_take (i := 3) (v := ?v2_3) rfl (by kernel_rfl) (by kernel_rfl) (by kernel_rfl) (fun _ _ _ h => h) (Or.inl ⟨by rfl, ?y2_3⟩) (by assumption) ?r2_3
            case' y2_3 => (intro w hSw; (try dsimp only at hSw); (try have hlS := HLK.out _ hSw); obtain ⟨hcS, hfS⟩ := bcell hSw; clear hSw; go_simp; try with_reducible rfl)
            try simp only [Act.put, List.getElem_toArray, List.getElem_cons_succ, List.getElem_cons_zero, List.setIfInBounds_toArray, List.set_cons_zero, List.set_cons_succ]
            refine wpAnyH_take (i := 4) (v := ?v2_4) rfl (by kernel_rfl) (by kernel_rfl) (by kernel_rfl) (fun _ _ _ h => h) (Or.inl ⟨by rfl, ?y2_4⟩) (by assumption) ?r2_4
            case' y2_4 => (intro w hSw; (try dsimp only at hSw); (try have hlS := HLK.out _ hSw); obtain ⟨hcS, hfS⟩ := bcell hSw; clear hSw; go_simp; try with_reducible rfl)
            try simp only [Act.put, List.getElem_toArray, List.getElem_cons_succ, List.getElem_cons_zero, List.setIfInBounds_toArray, List.set_cons_zero, List.set_cons_succ]
            refine wpAnyH_ready (rs := [5]) (by kernel_rfl) (by simp) ?_
            refine AllReadyH.cons rfl (fun K hK => ?_) AllReadyH.nil
            go_simp
            ((go_at_call 75; refine (rfits_any g n _ cs _ HGK.out (needOk_iff.1 HNK.out) ((H.out.below (Below.to HB4.out (by repeat (first | exact Below.refl _ _ | assumption | refine Below.drew ?_ | refine Below.drewN ?_ _ | refine Below.allocT ?_ (Nat.le_refl _) _ | refine Below.setCell ?_ (by simp <;> omega) _ | refine Below.to ?_ (by assumption) (Nat.le_refl _))) (Nat.le_refl _))).more (Below.size (Below.to HB4.out (by repeat (first | exact Below.refl _ _ | assumption | refine Below.drew ?_ | refine Below.drewN ?_ _ | refine Below.allocT ?_ (Nat.le_refl _) _ | refine Below.setCell ?_ (by simp <;> omega) _ | refine Below.to ?_ (by assumption) (Nat.le_refl _))) (Nat.le_refl _))))).mono ?_; rw [HFB.out]; rintro e w3 ⟨rfl, hB3⟩))
            (try dsimp only)
            refine hK.out _ _ ?_ (fun hNext => ?_)
            · try dsimp only
              exact (by repeat (first | exact Below.refl _ _ | assumption | refine Below.drew ?_ | refine Below.drewN ?_ _ | refine Below.allocT ?_ (Nat.le_refl _) _ | refine Below.setCell ?_ (by simp <;> omega) _ | refine Below.to ?_ (by assumption) (Nat.le_refl _)))
            clear hK K hHeld
            have hHeld := hNext
            clear hNext
            (try dsimp only at hHeld)
            try simp only [Act.put, List.getElem_toArray, List.getElem_cons_succ, List.getElem_cons_zero, List.setIfInBounds_toArray, List.set_cons_zero, List.set_cons_succ]
            refine wpAnyH_done (by kernel_rfl) ?_ _
            cases fb with
            | true =>
              go_wp2_with fail
              go_ret2
              have hix : chooseIx gs n cs = k := idxI_at _ Ga.z gs k hz.out hlt (by rw [HZ.out]; exact HFB.out)
              exact ⟨by simp [chooseVal, chooseErr, H20.out, HD.out, HNK.out, hix]; omega, Below.to HB4.out hHeld (Nat.le_refl _)⟩
            | false =>
              go_wp2_with fail
              go_roundw
              case rel => exact ⟨k + 1, by omega, by go_num, fun j hj => by
                  rcases Nat.lt_or_ge j k with h | h
                  · exact hz.out j h
                  · rw [show j = k from by omega, HZ.out]; exact HFB.out, (by repeat (first | exact Below.refl _ _ | assumption | refine Below.drew ?_ | refine Below.drewN ?_ _ | refine Below.allocT ?_ (Nat.le_refl _) _ | refine Below.setCell ?_ (by simp <;> omega) _ | refine Below.to ?_ (by assumption) (Nat.le_refl _)))⟩
              case measure => simp [intOf]; omega
          · go_wp2
            go_ret2
            have hix : chooseIx gs n cs = -1 := idxI_none _ Ga.z gs (fun j hj => hz.out j (by omega))
            exact ⟨by simp [chooseVal, chooseErr, H20.out, HD.out, HNK.out, hix], HB4.out⟩
end Go.Proofs.Ytejjjijaojkohaa
/- The arguments of the laws about gauges, fuses and needs, opened; tables copied: no condition. -/
namespace Go.Proofs.Ytejjjijaojkohaa
open Go.Joins Go.ChangeShapes Go.WideShapes Go.ChangeAt Go.RowKit Go.Deep
set_option maxRecDepth 100000
section
variable {H : Type} {enc : TypeId × Value → H} {W : World} {base b0 : Nat} {r : Reach} {spare : Nat → Bool} {held : Bool} {v : Value} {d : DataW H} {p : List MemPlace}

instance : Inhabited Ga := ⟨Ga.z⟩
instance : Inhabited Fu := ⟨Fu.z⟩
theorem cycle_cell {n : Nat} {c : Value} {y : DataW H × List MemPlace} (h : DataW.trod enc Try.prog W base spare held n 31 [c] = some y) :
    ∃ cs : List Cu, Cyc W W.heap.size c cs ∧ cs.length ≤ maxLen ∧ ∀ x ∈ cs, I64 x.amps ∧ I64 x.secs := by
  rcases open_slice_fields Try.underlying31 Try.underlying54 (by kernel_rfl) (by kernel_rfl) h with ⟨hcs, _⟩ | ⟨a, len', cap', m, D, Pl, hcs, _, hl, hm, hmm, _, hel⟩
  · simp at hcs
    subst hcs
    exact ⟨[], Sl.nil _ _ _ _, by simp, by simp⟩
  · simp at hcs
    subst hcs
    have hlm : len' ≤ m := by rw [hmm]; split <;> omega
    have hel2 : ∀ i, i < len' → ∃ c : Cu, W.cell? (a.add (i * 2 + 0)) = some (.int .i64 c.amps) ∧ W.cell? (a.add (i * 2 + 1)) = some (.int .i64 c.secs) ∧ I64 c.amps ∧ I64 c.secs := by
      intro i hi
      obtain ⟨ys, n, _, _, _, hfd⟩ := hel i (by omega)
      obtain ⟨u0, y0, hc0, _, ht0⟩ := hfd 0 _ rfl
      obtain ⟨u1, y1, hc1, _, ht1⟩ := hfd 1 _ rfl
      obtain ⟨x0, rfl, w0⟩ := int_cell ht0
      obtain ⟨x1, rfl, w1⟩ := int_cell ht1
      exact ⟨⟨x0, x1⟩, hc0, hc1, w0, w1⟩
    obtain ⟨F, hF⟩ := choose_lt (α := Cu) hel2
    refine ⟨(List.range len').map F, ?_, by simp; omega, ?_⟩
    · have hlen : ((List.range len').map F).length = len' := by simp
      have hget : ∀ i, i < len' → ((List.range len').map F).getD i Cu.z = F i := fun i hi => by simp [hi]
      unfold Cyc
      rw [hlen]
      rcases Nat.eq_zero_or_pos len' with h0 | h0
      · exact ⟨_, 0, 0, _, rfl, hl, .inr h0, fun i j hi => absurd hi (by omega)⟩
      · obtain ⟨hs, hb⟩ := cell_addr0 (hF 0 h0).1
        refine ⟨_, a.block, a.off, _, rfl, hl, .inl ⟨by rw [← hs], hb⟩, fun i j hi hj => ?_⟩
        have h2 := hF i hi
        unfold cyF
        rw [hget i hi]
        match j, hj with
        | 0, _ => exact cell_addr hs h2.1
        | 1, _ => exact cell_addr hs h2.2.1
    · intro c hc
      obtain ⟨i, hi, rfl⟩ := List.mem_map.1 hc
      have := hF i (by simpa using hi)
      exact this.2.2
theorem open_need (hv : Value.okWide Try.prog W r b0 48 v) (h : DataW.Trod enc Try.prog W base spare held 48 v d p) :
    ∃ (c : Value) (cs : List Cu) (n : Ne), v = .agg #[c, .int .i64 n.len, .int .i64 n.drop, .int .i64 n.amb] ∧ Cyc W W.heap.size c cs ∧ cs.length ≤ maxLen ∧ (∀ x ∈ cs, I64 x.amps ∧ I64 x.secs) ∧ I64 n.len ∧ I64 n.drop ∧ I64 n.amb := by
  obtain ⟨c0, c1, c2, c3, y0, y1, y2, y3, m, rfl, _, _, hy0, hy1, hy2, hy3⟩ := open_agg4 Try.underlying48 (by kernel_rfl) (by kernel_rfl) hv h
  obtain ⟨a1, rfl, w1⟩ := int_cell hy1
  obtain ⟨a2, rfl, w2⟩ := int_cell hy2
  obtain ⟨a3, rfl, w3⟩ := int_cell hy3
  obtain ⟨cs, hc, hl, hx⟩ := cycle_cell hy0
  exact ⟨c0, cs, ⟨a1, a2, a3⟩, rfl, hc, hl, hx, w1, w2, w3⟩
theorem gauges_cell {n : Nat} {c : Value} {y : DataW H × List MemPlace} (h : DataW.trod enc Try.prog W base spare held n 57 [c] = some y) :
    ∃ gs : List Ga, Gas W W.heap.size c gs ∧ gs.length ≤ maxLen := by
  rcases open_slice_fields Try.underlying57 Try.underlying23 (by kernel_rfl) (by kernel_rfl) h with ⟨hcs, _⟩ | ⟨a, len', cap', m, D, Pl, hcs, _, hl, hm, hmm, _, hel⟩
  · simp at hcs
    subst hcs
    exact ⟨[], Sl.nil _ _ _ _, by simp⟩
  · simp at hcs
    subst hcs
    have hlm : len' ≤ m := by rw [hmm]; split <;> omega
    have hel2 : ∀ i, i < len' → ∃ c : Ga, ∀ j, j < 5 → W.cell? (a.add (i * 5 + j)) = some (.int .i64 (gaC c j)) := by
      intro i hi
      obtain ⟨ys, n, _, _, _, hfd⟩ := hel i (by omega)
      obtain ⟨u0, y0, hc0, _, ht0⟩ := hfd 0 _ rfl
      obtain ⟨u1, y1, hc1, _, ht1⟩ := hfd 1 _ rfl
      obtain ⟨u2, y2, hc2, _, ht2⟩ := hfd 2 _ rfl
      obtain ⟨u3, y3, hc3, _, ht3⟩ := hfd 3 _ rfl
      obtain ⟨u4, y4, hc4, _, ht4⟩ := hfd 4 _ rfl
      obtain ⟨x0, rfl, w0⟩ := int_cell ht0
      obtain ⟨x1, rfl, w1⟩ := int_cell ht1
      obtain ⟨x2, rfl, w2⟩ := int_cell ht2
      obtain ⟨x3, rfl, w3⟩ := int_cell ht3
      obtain ⟨x4, rfl, w4⟩ := int_cell ht4
      refine ⟨⟨x0, x1, x2, x3, x4⟩, fun j hj => ?_⟩
      match j, hj with
      | 0, _ => exact hc0
      | 1, _ => exact hc1
      | 2, _ => exact hc2
      | 3, _ => exact hc3
      | 4, _ => exact hc4
    obtain ⟨F, hF⟩ := choose_lt (α := Ga) hel2
    refine ⟨(List.range len').map F, ?_, by simp; omega⟩
    have hlen : ((List.range len').map F).length = len' := by simp
    have hget : ∀ i, i < len' → ((List.range len').map F).getD i Ga.z = F i := fun i hi => by simp [hi]
    unfold Gas
    rw [hlen]
    rcases Nat.eq_zero_or_pos len' with h0 | h0
    · exact ⟨_, 0, 0, _, rfl, hl, .inr h0, fun i j hi => absurd hi (by omega)⟩
    · obtain ⟨hs, hb⟩ := cell_addr0 (hF 0 h0 0 (by omega))
      refine ⟨_, a.block, a.off, _, rfl, hl, .inl ⟨by rw [← hs], hb⟩, fun i j hi hj => ?_⟩
      unfold gaF
      rw [hget i hi]
      exact cell_addr hs (hF i hi j hj)
theorem fuses_cell {n : Nat} {c : Value} {y : DataW H × List MemPlace} (h : DataW.trod enc Try.prog W base spare held n 60 [c] = some y) :
    ∃ fs : List Fu, Fus W W.heap.size c fs ∧ fs.length ≤ maxLen := by
  rcases open_slice_fields Try.underlying60 Try.underlying30 (by kernel_rfl) (by kernel_rfl) h with ⟨hcs, _⟩ | ⟨a, len', cap', m, D, Pl, hcs, _, hl, hm, hmm, _, hel⟩
  · simp at hcs
    subst hcs
    exact ⟨[], Sl.nil _ _ _ _, by simp⟩
  · simp at hcs
    subst hcs
    have hlm : len' ≤ m := by rw [hmm]; split <;> omega
    have hel2 : ∀ i, i < len' → ∃ c : Fu, ∀ j, j < 2 → W.cell? (a.add (i * 2 + j)) = some (.int .i64 (if j = 0 then c.rating else c.melt)) := by
      intro i hi
      obtain ⟨ys, n, _, _, _, hfd⟩ := hel i (by omega)
      obtain ⟨u0, y0, hc0, _, ht0⟩ := hfd 0 _ rfl
      obtain ⟨u1, y1, hc1, _, ht1⟩ := hfd 1 _ rfl
      obtain ⟨x0, rfl, w0⟩ := int_cell ht0
      obtain ⟨x1, rfl, w1⟩ := int_cell ht1
      refine ⟨⟨x0, x1⟩, fun j hj => ?_⟩
      match j, hj with
      | 0, _ => exact hc0
      | 1, _ => exact hc1
    obtain ⟨F, hF⟩ := choose_lt (α := Fu) hel2
    refine ⟨(List.range len').map F, ?_, by simp; omega⟩
    have hlen : ((List.range len').map F).length = len' := by simp
    have hget : ∀ i, i < len' → ((List.range len').map F).getD i Fu.z = F i := fun i hi => by simp [hi]
    unfold Fus
    rw [hlen]
    rcases Nat.eq_zero_or_pos len' with h0 | h0
    · exact ⟨_, 0, 0, _, rfl, hl, .inr h0, fun i j hi => absurd hi (by omega)⟩
    · obtain ⟨hs, hb⟩ := cell_addr0 (hF 0 h0 0 (by omega))
      refine ⟨_, a.block, a.off, _, rfl, hl, .inl ⟨by rw [← hs], hb⟩, fun i j hi hj => ?_⟩
      unfold fuF
      rw [hget i hi]
      exact cell_addr hs (hF i hi j hj)
theorem cells_slice {t e : TypeId} (ht : Try.prog.underlying t = some (.slice e)) (hv : Value.okWide Try.prog W r b0 t v) : v.cells = #[v] := by
  obtain ⟨a0, len, cap, rfl⟩ := okWide_slice ht hv
  rfl
theorem open_gauges (hv : Value.okWide Try.prog W r b0 57 v) (h : DataW.Trod enc Try.prog W base spare held 57 v d p) :
    ∃ gs : List Ga, Gas W W.heap.size v gs ∧ gs.length ≤ maxLen := by
  obtain ⟨fuel, hf⟩ := h
  rw [cells_slice Try.underlying57 hv] at hf
  exact gauges_cell hf
theorem open_fuses (hv : Value.okWide Try.prog W r b0 60 v) (h : DataW.Trod enc Try.prog W base spare held 60 v d p) :
    ∃ gs : List Fu, Fus W W.heap.size v gs ∧ gs.length ≤ maxLen := by
  obtain ⟨fuel, hf⟩ := h
  rw [cells_slice Try.underlying60 hv] at hf
  exact fuses_cell hf
end
theorem infoGa : (Try.prog.info? 23).map (fun i => (i.zero, i.size, i.bytes)) = some (some (.agg #[.int .i64 0, .int .i64 0, .int .i64 0, .int .i64 0, .int .i64 0]), 5, 40) := by kernel_rfl
theorem infoFu : (Try.prog.info? 30).map (fun i => (i.zero, i.size, i.bytes)) = some (some (.agg #[.int .i64 0, .int .i64 0]), 2, 16) := by kernel_rfl
theorem gaF_one (gs : List Ga) (i j : Nat) : (gaF gs i j).oneCell' = true := rfl
theorem fuF_one (gs : List Fu) (i j : Nat) : (fuF gs i j).oneCell' = true := rfl
end Go.Proofs.Ytejjjijaojkohaa
/- Fuses: the check of a table: walks. -/
namespace Go.Proofs.Ytejjjijaojkohaa
open Go.RowKit
set_option linter.unusedVariables false
set_option linter.unusedSimpArgs false

theorem badFuse_any (f : Fu) (w : World) :
    Calls Try.prog 105 #[.agg #[.int .i64 f.rating, .int .i64 f.melt]] w fun e w' => e = .returned (.bool (!f.ok)) ∧ Below w.heap.size w w' := by
  cases hf : f.ok
  all_goals
    have HF := hide hf
    clear hf
    go_enter Try.func105, Try.ntmps105
    go_wp2_with (go_at_call 54; refine (checkFuse_any _ _).mono ?_; rw [HF.out]; rintro e w' ⟨rfl, hB⟩)
    go_ret
    exact ⟨rfl, (by repeat (first | exact Below.refl _ _ | assumption | refine Below.drew ?_ | refine Below.drewN ?_ _ | refine Below.allocT ?_ (Nat.le_refl _) _ | refine Below.setCell ?_ (by simp <;> omega) _ | refine Below.to ?_ (by assumption) (Nat.le_refl _)))⟩
def fusB (fs : List Fu) : Bool := !(fs.any fun f => !f.ok)
def fusErr (fs : List Fu) : Int := if fusB fs then 0 else 72
theorem fusB_get {fs : List Fu} (h : fusB fs = true) {k : Nat} (hk : k < fs.length) : (fs.getD k Fu.z).ok = true := by
  unfold fusB at h
  have hm : fs.getD k Fu.z ∈ fs := by
    rw [List.getD_eq_getElem?_getD, List.getElem?_eq_getElem hk]
    exact List.getElem_mem _
  simp only [Bool.not_eq_true', List.any_eq_false] at h
  have := h _ hm
  simpa using this

theorem containsFu_any (v : Value) (fs : List Fu) (w : World) (hm : fs.length ≤ maxLen) (h : Fus w w.heap.size v fs) :
    Calls Try.prog 104 #[v, .func (.func 105) #[] #[]] w
      fun e w' => e = .returned (.bool (fs.any (fun f => !f.ok))) ∧ Below w.heap.size w w' := by
  have hl := idxI_lo (fun f : Fu => !f.ok) fs
  have hany := hide (idxI_any (fun f : Fu => !f.ok) fs)
  have H := hide h
  obtain ⟨A, cap, rfl⟩ := Sl.form h
  clear h
  go_enter Try.func104, Try.ntmps104
  go_wp2_with (go_at_call 85; refine (index_checkFuses (fun f => !f.ok) _ fs _ hm H.out (fun i g W _ _ _ => badFuse_any g W)).mono ?_; rintro e w' ⟨rfl, hB⟩)
  go_ret
  exact ⟨ret_bool hany.out, hB⟩

theorem checkFuses_any (v : Value) (fs : List Fu) (w : World) (hm : fs.length ≤ maxLen) (h : Fus w w.heap.size v fs) :
    Calls Try.prog 84 #[v] w fun e w' => e = .returned (.int .i64 (fusErr fs)) ∧ Below w.heap.size w w' := by
  have H := hide h
  obtain ⟨A, cap, rfl⟩ := Sl.form h
  clear h
  cases hf : fs.any (fun f => !f.ok)
  all_goals
    have HF := hide hf
    clear hf
    go_enter Try.func84, Try.ntmps84
    go_wp2_with (go_at_call 104; refine (containsFu_any _ fs _ hm H.out).mono ?_; rw [HF.out]; rintro e w' ⟨rfl, hB⟩)
    go_ret
    exact ⟨ret_int (by unfold fusErr fusB; rw [HF.out]; rfl), (by repeat (first | exact Below.refl _ _ | assumption | refine Below.drew ?_ | refine Below.drewN ?_ _ | refine Below.allocT ?_ (Nat.le_refl _) _ | refine Below.setCell ?_ (by simp <;> omega) _ | refine Below.to ?_ (by assumption) (Nat.le_refl _)))⟩
end Go.Proofs.Ytejjjijaojkohaa
/- Feeders and wirings in memory; the checks of a wiring: walks. -/
namespace Go.Proofs.Ytejjjijaojkohaa
open Go.RowKit
set_option linter.unusedVariables false
set_option linter.unusedSimpArgs false

structure Fe where
  par : Int
  gauge : Int
  fuse : Int
  n : Ne
  cs : List Cu
def Fe.z : Fe := ⟨0, 0, 0, ⟨0, 0, 0⟩, []⟩
def feC (f : Fe) (c : Value) : Nat → Value
  | 0 => .int .i64 f.par
  | 1 => .int .i64 f.gauge
  | 2 => .int .i64 f.fuse
  | 3 => c
  | 4 => .int .i64 f.n.len
  | 5 => .int .i64 f.n.drop
  | _ => .int .i64 f.n.amb
/-- The slice value v holds the feeders es, below block B. -/
def Fes (w : World) (B : Nat) (v : Value) (es : List Fe) : Prop :=
  ∃ cv : Nat → Value, Sl w B 7 v es.length (fun i j => feC (es.getD i Fe.z) (cv i) j) ∧ ∀ i, i < es.length → Cyc w B (cv i) (es.getD i Fe.z).cs
theorem Fes.below {w w' : World} {B : Nat} {v : Value} {es : List Fe} (h : Fes w B v es) (hb : Below B w w') : Fes w' B v es := by
  obtain ⟨cv, h1, h2⟩ := h
  exact ⟨cv, Sl.below h1 hb, fun i hi => Sl.below (h2 i hi) hb⟩
theorem Fes.more {w : World} {B B' : Nat} {v : Value} {es : List Fe} (h : Fes w B v es) (hB : B ≤ B') : Fes w B' v es := by
  obtain ⟨cv, h1, h2⟩ := h
  exact ⟨cv, Sl.more h1 hB, fun i hi => Sl.more (h2 i hi) hB⟩
theorem Fes.form {w : World} {B : Nat} {v : Value} {es : List Fe} (h : Fes w B v es) : ∃ A cap, v = .slice A es.length cap := by
  obtain ⟨cv, h1, _⟩ := h
  exact Sl.form h1
/-- The three slices of a wiring. -/
structure Wir (w : World) (B : Nat) (gv fv ev : Value) (gs : List Ga) (fs : List Fu) (es : List Fe) : Prop where
  g : Gas w B gv gs
  f : Fus w B fv fs
  e : Fes w B ev es
theorem Wir.below {w w' : World} {B : Nat} {gv fv ev : Value} {gs : List Ga} {fs : List Fu} {es : List Fe} (h : Wir w B gv fv ev gs fs es) (hb : Below B w w') : Wir w' B gv fv ev gs fs es :=
  ⟨Sl.below h.g hb, Sl.below h.f hb, h.e.below hb⟩
theorem Wir.more {w : World} {B B' : Nat} {gv fv ev : Value} {gs : List Ga} {fs : List Fu} {es : List Fe} (h : Wir w B gv fv ev gs fs es) (hB : B ≤ B') : Wir w B' gv fv ev gs fs es :=
  ⟨Sl.more h.g hB, Sl.more h.f hB, h.e.more hB⟩
theorem Wir.up {w w' : World} {gv fv ev : Value} {gs : List Ga} {fs : List Fu} {es : List Fe} (h : Wir w w.heap.size gv fv ev gs fs es) (hb : Below w.heap.size w w') : Wir w' w'.heap.size gv fv ev gs fs es :=
  (h.below hb).more hb.size
/-- Sizes that a statement looks at. -/
structure WSz (gs : List Ga) (fs : List Fu) (es : List Fe) : Prop where
  g : gs.length ≤ 30
  f : fs.length ≤ 30
  e : es.length ≤ 30
  c : ∀ i, i < es.length → (es.getD i Fe.z).cs.length ≤ 20

theorem feAtB {w wr : World} {B b off : Nat} {A : Option Addr} {es : List Fe} {cv : Nat → Value} {k : Nat} (hB : Below B w wr) (hA : A = some ⟨b, off, none⟩ ∧ b < B ∨ es.length = 0)
    (hc : ∀ i j, i < es.length → j < 7 → w.cell? ⟨b, off + (i * 7 + j), none⟩ = some (feC (es.getD i Fe.z) (cv i) j)) (hcy : ∀ i, i < es.length → Cyc w B (cv i) (es.getD i Fe.z).cs) (hlt : k < es.length) :
    ∃ (f : Fe) (C : Option Addr) (cap : Nat), Hid (es.getD k Fe.z = f) ∧ A = some ⟨b, off, none⟩ ∧ b < B ∧ wr.cell? ⟨b, off + k * 7, none⟩ = some (.int .i64 f.par) ∧ wr.cell? ⟨b, off + k * 7 + 1, none⟩ = some (.int .i64 f.gauge) ∧ wr.cell? ⟨b, off + k * 7 + 2, none⟩ = some (.int .i64 f.fuse) ∧ wr.cell? ⟨b, off + k * 7 + 3, none⟩ = some (.slice C f.cs.length cap) ∧
      wr.cell? ⟨b, off + k * 7 + 4, none⟩ = some (.int .i64 f.n.len) ∧ wr.cell? ⟨b, off + k * 7 + 5, none⟩ = some (.int .i64 f.n.drop) ∧ wr.cell? ⟨b, off + k * 7 + 6, none⟩ = some (.int .i64 f.n.amb) ∧ Hid (Cyc wr B (.slice C f.cs.length cap) f.cs) := by
  rcases hA with ⟨hA1, hA2⟩ | hA1
  · have hk : ∀ o, wr.cell? ⟨b, o, none⟩ = w.cell? ⟨b, o, none⟩ := fun o => hB.cell (p := ⟨b, o, none⟩) hA2
    have hy := hcy k hlt
    obtain ⟨C, cap, hv⟩ := Sl.form hy
    rw [hv] at hy
    have h3 := hc k 3 hlt (by omega)
    rw [show feC (es.getD k Fe.z) (cv k) 3 = cv k from rfl, hv] at h3
    exact ⟨_, C, cap, rfl, hA1, hA2, (hk _).trans (hc k 0 hlt (by omega)), (hk _).trans (hc k 1 hlt (by omega)), (hk _).trans (hc k 2 hlt (by omega)), (hk _).trans h3, (hk _).trans (hc k 4 hlt (by omega)), (hk _).trans (hc k 5 hlt (by omega)), (hk _).trans (hc k 6 hlt (by omega)), Sl.below hy hB⟩
  · omega

/-- A feeder of a wiring is right. -/
def feOk (gs : List Ga) (fs : List Fu) (es : List Fe) (i : Nat) : Bool :=
  fromB (es.getD i Fe.z).par (-1) (i - 1) && fromB (es.getD i Fe.z).gauge 0 (gs.length - 1) && fromB (es.getD i Fe.z).fuse 0 (fs.length - 1) && needOk (es.getD i Fe.z).n (es.getD i Fe.z).cs
def bigB (gs : List Ga) (fs : List Fu) (es : List Fe) : Bool := decide (20 < gs.length) || decide (20 < fs.length) || decide (20 < es.length)
def fesB (gs : List Ga) (fs : List Fu) (es : List Fe) : Bool := (List.range es.length).all (feOk gs fs es)
def chkErr (gs : List Ga) (fs : List Fu) (es : List Fe) : Int := if bigB gs fs es then 2 else if tableB gs then if fusB fs then if fesB gs fs es then 0 else 71 else 72 else 70
theorem fesB_all {gs : List Ga} {fs : List Fu} {es : List Fe} (h : ∀ j, j < es.length → feOk gs fs es j = true) : fesB gs fs es = true := by
  unfold fesB; rw [List.all_eq_true]; intro x hx; exact h x (by simpa using hx)
theorem fesB_get {gs : List Ga} {fs : List Fu} {es : List Fe} (h : fesB gs fs es = true) {j : Nat} (hj : j < es.length) : feOk gs fs es j = true := by
  unfold fesB at h; rw [List.all_eq_true] at h; exact h j (by simpa using hj)
theorem fesB_at {gs : List Ga} {fs : List Fu} {es : List Fe} {k : Nat} (hk : k < es.length) (h : feOk gs fs es k = false) : fesB gs fs es = false := by
  cases ht : fesB gs fs es with
  | false => rfl
  | true => rw [fesB_get ht hk] at h; cases h

/-- A wiring without an error. -/
structure WOk (gs : List Ga) (fs : List Fu) (es : List Fe) : Prop where
  g20 : gs.length ≤ 20
  f20 : fs.length ≤ 20
  e20 : es.length ≤ 20
  tab : tableB gs = true
  fus : fusB fs = true
  fes : fesB gs fs es = true
theorem chk_iff {gs : List Ga} {fs : List Fu} {es : List Fe} : chkErr gs fs es = 0 ↔ WOk gs fs es := by
  unfold chkErr
  constructor
  · intro h
    cases hb : bigB gs fs es
    · cases ht : tableB gs <;> cases hf : fusB fs <;> cases he : fesB gs fs es <;> simp [hb, ht, hf, he] at h
      simp only [bigB, Bool.or_eq_false_iff, decide_eq_false_iff_not] at hb
      exact ⟨by omega, by omega, by omega, ht, hf, he⟩
    · simp [hb] at h
  · intro h
    have hb : bigB gs fs es = false := by
      simp only [bigB, Bool.or_eq_false_iff, decide_eq_false_iff_not]
      exact ⟨⟨by have := h.g20; omega, by have := h.f20; omega⟩, by have := h.e20; omega⟩
    simp [hb, h.tab, h.fus, h.fes]
structure FeOk (gs : List Ga) (fs : List Fu) (f : Fe) (i : Nat) : Prop where
  par0 : -1 ≤ f.par
  par1 : f.par ≤ i - 1
  ga0 : 0 ≤ f.gauge
  ga1 : f.gauge ≤ gs.length - 1
  fu0 : 0 ≤ f.fuse
  fu1 : f.fuse ≤ fs.length - 1
  need : NeOk f.n f.cs
theorem WOk.at {gs : List Ga} {fs : List Fu} {es : List Fe} (h : WOk gs fs es) {i : Nat} (hi : i < es.length) {f : Fe} (hf : es.getD i Fe.z = f) : FeOk gs fs f i := by
  have h1 := fesB_get h.fes hi
  unfold feOk at h1
  rw [hf] at h1
  simp only [Bool.and_eq_true, fromB_iff] at h1
  obtain ⟨⟨⟨⟨a, b⟩, c, d⟩, e, g⟩, k⟩ := h1
  exact ⟨a, b, c, d, e, g, needOk_iff.1 k⟩

def WiAt (w : World) (b : Nat) (gv fv ev : Value) : Prop := w.heap[b]? = some (.cells #[gv, fv, ev] 63 (0, 0))
theorem wi3 {w0 w1 : World} {b : Nat} {gv fv ev : Value} (h : WiAt w0 b gv fv ev) (hB : Below w0.heap.size w0 w1) :
    w1.cell? ⟨b, 0, none⟩ = some gv ∧ w1.cell? ⟨b, 1, none⟩ = some fv ∧ w1.cell? ⟨b, 2, none⟩ = some ev ∧ Hid (Below w0.heap.size w0 w1) :=
  ⟨cellOf (box_to h hB) 0, cellOf (box_to h hB) 1, cellOf (box_to h hB) 2, hB⟩
end Go.Proofs.Ytejjjijaojkohaa
/- A wiring's argument opened; the size of a wiring: no condition. -/
namespace Go.Proofs.Ytejjjijaojkohaa
open Go.Joins Go.ChangeShapes Go.WideShapes Go.ChangeAt Go.RowKit Go.Deep
set_option maxRecDepth 100000
set_option linter.unusedVariables false
set_option linter.unusedSimpArgs false
section
variable {H : Type} {enc : TypeId × Value → H} {W : World} {base b0 : Nat} {r : Reach} {spare : Nat → Bool} {held : Bool} {v : Value} {d : DataW H} {p : List MemPlace}
theorem cellsInt : Try.prog.cellsOf 3 = 1 := by kernel_rfl
theorem cellsCus : Try.prog.cellsOf 31 = 1 := by kernel_rfl
theorem cellsNeed : Try.prog.cellsOf 48 = 4 := by kernel_rfl
theorem cellsFe : Try.prog.cellsOf 74 = 7 := by kernel_rfl

theorem need_cells {n : Nat} {c0 c1 c2 c3 : Value} {y : DataW H × List MemPlace} (h : DataW.trod enc Try.prog W base spare held n 48 [c0, c1, c2, c3] = some y) :
    ∃ (cs : List Cu) (m : Ne), Cyc W W.heap.size c0 cs ∧ cs.length ≤ maxLen ∧ c1 = .int .i64 m.len ∧ c2 = .int .i64 m.drop ∧ c3 = .int .i64 m.amb := by
  obtain ⟨xs, n', _, _, _, hlen, hf⟩ := DataW.trod_struct Try.underlying48 h
  have g0 := hf 0 _ rfl
  have g1 := hf 1 _ rfl
  have g2 := hf 2 _ rfl
  have g3 := hf 3 _ rfl
  match xs, hlen with
  | [y0, y1, y2, y3], _ =>
    obtain ⟨a1, rfl, _⟩ := int_cell (y := y1) (by simpa [cellsInt] using g1)
    obtain ⟨a2, rfl, _⟩ := int_cell (y := y2) (by simpa [cellsInt] using g2)
    obtain ⟨a3, rfl, _⟩ := int_cell (y := y3) (by simpa [cellsInt] using g3)
    obtain ⟨cs, hc, hl, _⟩ := cycle_cell (y := y0) (by simpa [cellsCus] using g0)
    exact ⟨cs, ⟨a1, a2, a3⟩, hc, hl, rfl, rfl, rfl⟩

theorem feeders_cell {n : Nat} {c : Value} {y : DataW H × List MemPlace} (h : DataW.trod enc Try.prog W base spare held n 61 [c] = some y) :
    ∃ es : List Fe, Fes W W.heap.size c es ∧ es.length ≤ maxLen ∧ ∀ i, i < es.length → (es.getD i Fe.z).cs.length ≤ maxLen := by
  obtain ⟨xs, hsl, hl, hR⟩ := open_rows (α := Fe × Value) (Fe.z, .slice none 0 0) (fun x j => feC x.1 x.2 j) (fun x => Cyc W W.heap.size x.2 x.1.cs ∧ x.1.cs.length ≤ maxLen) Try.underlying61 cellsFe (by omega) (by
    intro n cs' y hlen ht
    match cs', hlen with
    | [c0, c1, c2, c3, c4, c5, c6], _ =>
      obtain ⟨xs, n', _, _, _, hlen, hf⟩ := DataW.trod_struct Try.underlying74 ht
      have g0 := hf 0 _ rfl
      have g1 := hf 1 _ rfl
      have g2 := hf 2 _ rfl
      have g3 := hf 3 _ rfl
      match xs, hlen with
      | [y0, y1, y2, y3], _ =>
        obtain ⟨a0, rfl, _⟩ := int_cell (y := y0) (by simpa [cellsInt] using g0)
        obtain ⟨a1, rfl, _⟩ := int_cell (y := y1) (by simpa [cellsInt] using g1)
        obtain ⟨a2, rfl, _⟩ := int_cell (y := y2) (by simpa [cellsInt] using g2)
        obtain ⟨cs, m, hc, hcl, rfl, rfl, rfl⟩ := need_cells (y := y3) (by simpa [cellsNeed] using g3)
        refine ⟨(⟨a0, a1, a2, m, cs⟩, c3), fun j hj => ?_, hc, hcl⟩
        match j, hj with
        | 0, _ => rfl
        | 1, _ => rfl
        | 2, _ => rfl
        | 3, _ => rfl
        | 4, _ => rfl
        | 5, _ => rfl
        | 6, _ => rfl) h
  have hg : ∀ i, i < xs.length → (xs.map (·.1)).getD i Fe.z = (xs.getD i (Fe.z, .slice none 0 0)).1 := fun i hi => by simp [hi]
  refine ⟨xs.map (·.1), ⟨fun i => (xs.getD i (Fe.z, .slice none 0 0)).2, ?_, fun i hi => ?_⟩, by simpa using hl, fun i hi => ?_⟩
  · rw [List.length_map]
    exact Sl.congr hsl fun i j hi hj => by rw [hg i hi]
  · rw [List.length_map] at hi
    rw [hg i hi]
    exact (hR i hi).1
  · rw [List.length_map] at hi
    rw [hg i hi]
    exact (hR i hi).2

theorem open_wiring (hv : Value.okWide Try.prog W r b0 63 v) (h : DataW.Trod enc Try.prog W base spare held 63 v d p) :
    ∃ (gv fv ev : Value) (gs : List Ga) (fs : List Fu) (es : List Fe), v = .agg #[gv, fv, ev] ∧ Wir W W.heap.size gv fv ev gs fs es ∧ gs.length ≤ maxLen ∧ fs.length ≤ maxLen ∧ es.length ≤ maxLen ∧ ∀ i, i < es.length → (es.getD i Fe.z).cs.length ≤ maxLen := by
  obtain ⟨c0, c1, c2, y0, y1, y2, m, rfl, _, _, hy0, hy1, hy2⟩ := open_agg3 Try.underlying63 (by kernel_rfl) (by kernel_rfl) hv h
  obtain ⟨gs, hg, hgl⟩ := gauges_cell hy0
  obtain ⟨fs, hf, hfl⟩ := fuses_cell hy1
  obtain ⟨es, he, hel, hcl⟩ := feeders_cell hy2
  exact ⟨c0, c1, c2, gs, fs, es, rfl, ⟨hg, hf, he⟩, hgl, hfl, hel, hcl⟩
end
/-- A wiring is larger than a statement looks at. -/
def largeB (gs : List Ga) (fs : List Fu) (es : List Fe) : Bool := decide (30 < gs.length) || decide (30 < fs.length) || decide (30 < es.length) || es.any fun f => decide (20 < f.cs.length)
theorem largeB_no {gs : List Ga} {fs : List Fu} {es : List Fe} (h : largeB gs fs es = false) : WSz gs fs es := by
  unfold largeB at h
  simp only [Bool.or_eq_false_iff, decide_eq_false_iff_not, List.any_eq_false, decide_eq_true_eq] at h
  obtain ⟨⟨⟨a, b⟩, c⟩, e⟩ := h
  refine ⟨by omega, by omega, by omega, fun i hi => ?_⟩
  have hm : es.getD i Fe.z ∈ es := by
    rw [List.getD_eq_getElem?_getD, List.getElem?_eq_getElem hi]
    exact List.getElem_mem _
  have := e _ hm
  omega
theorem Cyc.len {w : World} {B : Nat} {v : Value} {cs : List Cu} (h : Cyc w B v cs) (hc : ∀ A cap, v = .slice A cs.length cap → cap ≤ maxLen) : cs.length ≤ maxLen := by
  obtain ⟨A, b, off, cap, hv, hn, _⟩ := h
  exact Nat.le_trans hn (hc A cap hv)

set_option maxHeartbeats 2000000 in
theorem Large_any (gs : List Ga) (fs : List Fu) (es : List Fe) (gv fv ev : Value) (w : World) (hg : gs.length ≤ maxLen) (hf : fs.length ≤ maxLen) (he : es.length ≤ maxLen) (hcl : ∀ i, i < es.length → (es.getD i Fe.z).cs.length ≤ maxLen) (h : Wir w w.heap.size gv fv ev gs fs es) :
    Calls Try.prog 37 #[.agg #[gv, fv, ev]] w fun e w' => e = .returned (.bool (largeB gs fs es)) ∧ Below w.heap.size w w' := by
  have hg2 : gs.length ≤ 9223372036854775807 := hg
  have hf2 : fs.length ≤ 9223372036854775807 := hf
  have he2 : es.length ≤ 9223372036854775807 := he
  obtain ⟨A0, cap0, rfl⟩ := Sl.form h.g
  obtain ⟨A1, cap1, rfl⟩ := Sl.form h.f
  obtain ⟨cv, hsl, hcy⟩ := h.e
  obtain ⟨A, b, off, cap, rfl, hnc, hA, hc⟩ := hsl
  have HC := hide hc
  have HA := hide hA
  have HCY := hide hcy
  have HCL := hide hcl
  clear h hc hA hcy hcl hg hf he
  by_cases h1 : 30 < gs.length
  · have hd : largeB gs fs es = true := by simp [largeB, h1]
    have HD := hide hd
    have h1' : (30 : Int) < (gs.length : Int) := by omega
    clear hd
    go_enter Try.func37, Try.ntmps37
    go_wp2_with fail
    go_ret
    exact ⟨ret_bool HD.out.symm, (by repeat (first | exact Below.refl _ _ | assumption | refine Below.drew ?_ | refine Below.drewN ?_ _ | refine Below.allocT ?_ (Nat.le_refl _) _ | refine Below.setCell ?_ (by simp <;> omega) _ | refine Below.to ?_ (by assumption) (Nat.le_refl _)))⟩
  · have h1' : ¬ (30 : Int) < (gs.length : Int) := by omega
    by_cases h2 : 30 < fs.length
    · have hd : largeB gs fs es = true := by simp [largeB, h2]
      have HD := hide hd
      have h2' : (30 : Int) < (fs.length : Int) := by omega
      clear hd
      go_enter Try.func37, Try.ntmps37
      go_wp2_with fail
      go_ret
      exact ⟨ret_bool HD.out.symm, (by repeat (first | exact Below.refl _ _ | assumption | refine Below.drew ?_ | refine Below.drewN ?_ _ | refine Below.allocT ?_ (Nat.le_refl _) _ | refine Below.setCell ?_ (by simp <;> omega) _ | refine Below.to ?_ (by assumption) (Nat.le_refl _)))⟩
    · have h2' : ¬ (30 : Int) < (fs.length : Int) := by omega
      by_cases h3 : 30 < es.length
      · have hd : largeB gs fs es = true := by simp [largeB, h3]
        have HD := hide hd
        have h3' : (30 : Int) < (es.length : Int) := by omega
        clear hd
        go_enter Try.func37, Try.ntmps37
        go_wp2_with fail
        go_ret
        exact ⟨ret_bool HD.out.symm, (by repeat (first | exact Below.refl _ _ | assumption | refine Below.drew ?_ | refine Below.drewN ?_ _ | refine Below.allocT ?_ (Nat.le_refl _) _ | refine Below.setCell ?_ (by simp <;> omega) _ | refine Below.to ?_ (by assumption) (Nat.le_refl _)))⟩
      · have h3' : ¬ (30 : Int) < (es.length : Int) := by omega
        have HL : Hid (largeB gs fs es = es.any fun f => decide (20 < f.cs.length)) := by show _ = _; simp [largeB, h1, h2, h3]
        clear h1 h2 h3
        go_enter Try.func37, Try.ntmps37
        go_wp2_with fail
        generalize hw0 : World.alloc _ _ = w0
        obtain ⟨hb0, hB0, hs0⟩ := alloc1 hw0
        clear hw0
        have j2 := cellOf hb0 2
        clear hb0
        have hlt0 : w.heap.size < w0.heap.size := by omega
        clear hs0
        go_loop [3] (fun i => ∃ k : Nat, k ≤ es.length ∧ i = .int .i64 k ∧ Hid (∀ j, j < k → (fun f : Fe => decide (20 < f.cs.length)) (es.getD j Fe.z) = false)) (fun i => es.length - (intOf i).toNat)
        case atStart => exact ⟨0, Nat.zero_le _, rfl, fun j hj => by omega⟩
        case round =>
          obtain ⟨k, hk, rfl, hz⟩ := hrel
          by_cases hlt : k < es.length
          · obtain ⟨f, C, cp, HZ, hA1, hbw, g0, g1, g2, g3, g4, g5, g6, hy⟩ := feAtB hB0 HA.out HC.out HCY.out hlt
            subst hA1
            have hcm : Hid (f.cs.length ≤ maxLen) := by show _; have := HCL.out k hlt; rw [HZ.out] at this; exact this
            cases hd : decide (20 < f.cs.length)
            · have HD := hide hd
              clear hd
              go_wp2_with (go_at_call 18; refine (far_any _ _ _ _ _ rfl hcm.out).mono ?_; rw [HD.out]; rintro e w1 ⟨rfl, rfl⟩)
              go_round
              case rel => exact ⟨k + 1, by omega, by go_num, fun j hj => by
                  rcases Nat.lt_or_ge j k with h | h
                  · exact hz.out j h
                  · rw [show j = k from by omega, HZ.out]; exact HD.out⟩
              case measure => simp [intOf]; omega
            · have HD := hide hd
              clear hd
              go_wp2_with (go_at_call 18; refine (far_any _ _ _ _ _ rfl hcm.out).mono ?_; rw [HD.out]; rintro e w1 ⟨rfl, rfl⟩)
              go_ret
              exact ⟨ret_bool (by rw [HL.out, any_at _ Fe.z es k hlt (by rw [HZ.out]; exact HD.out)]), hB0⟩
          · go_wp2
            go_ret
            exact ⟨ret_bool (by rw [HL.out, any_none _ Fe.z es (fun j hj => hz.out j (by omega))]), hB0⟩
end Go.Proofs.Ytejjjijaojkohaa
/- A wiring copied: a walk. -/
namespace Go.Proofs.Ytejjjijaojkohaa
open Go.RowKit
set_option linter.unusedVariables false
set_option linter.unusedSimpArgs false
attribute [local go_sem ↓] Go.wp_at_zero Go.wp_at_succ

theorem infoFe : (Try.prog.info? 74).map (fun i => (i.zero, i.size, i.bytes)) = some (some (.agg #[.int .i64 0, .int .i64 0, .int .i64 0, .slice none 0 0, .int .i64 0, .int .i64 0, .int .i64 0]), 7, 72) := by kernel_rfl
theorem flat_one' {n sz : Nat} {f : Nat → Nat → Value} (hsz : 0 < sz) (h : ∀ i j, i < n → j < sz → (f i j).oneCell' = true) : ∀ u ∈ flat n sz f, u.oneCell' = true := by
  intro u hu
  obtain ⟨m, hm⟩ := List.mem_iff_getElem?.1 hu
  obtain ⟨i, j, hi, hj, _, rfl⟩ := flat_inv hsz hm
  exact h i j hi hj

/-- A cycle apart from block g. -/
def CycX (w : World) (g x : Nat) (v : Value) (cs : List Cu) : Prop :=
  ∃ (A : Option Addr) (b off cap : Nat), v = .slice A cs.length cap ∧ cs.length ≤ cap ∧ (A = some ⟨b, off, none⟩ ∧ b < w.heap.size ∧ b ≠ g ∧ b ≠ x ∨ cs.length = 0) ∧ ∀ i j, i < cs.length → j < 2 → w.cell? ⟨b, off + (i * 2 + j), none⟩ = some (cyF cs i j)
theorem CycX.cyc {w : World} {g x : Nat} {v : Value} {cs : List Cu} (h : CycX w g x v cs) : Cyc w w.heap.size v cs := by
  obtain ⟨A, b, off, cap, hv, hn, hA, hc⟩ := h
  exact ⟨A, b, off, cap, hv, hn, hA.imp (fun ⟨a, c, _⟩ => ⟨a, c⟩) id, hc⟩
theorem CycX.of {w : World} {B g x : Nat} {v : Value} {cs : List Cu} (h : Cyc w B v cs) (hB : B ≤ w.heap.size) (hg : B ≤ g) (hx : B ≤ x) : CycX w g x v cs := by
  obtain ⟨A, b, off, cap, hv, hn, hA, hc⟩ := h
  exact ⟨A, b, off, cap, hv, hn, hA.imp (fun ⟨a, c⟩ => ⟨a, by omega, by omega, by omega⟩) id, hc⟩
theorem CycX.grown {w w' : World} {g x : Nat} {v : Value} {cs : List Cu} (h : CycX w g x v cs) (hg : w.grownBy w' (some g)) : CycX w' g x v cs := by
  obtain ⟨A, b, off, cap, hv, hn, hA, hc⟩ := h
  refine ⟨A, b, off, cap, hv, hn, hA.imp (fun ⟨a, c, d⟩ => ⟨a, Nat.lt_of_lt_of_le c hg.size, d⟩) id, fun i j hi hj => ?_⟩
  rcases hA with ⟨_, hb, hne, _⟩ | h0
  · rw [gcell hg b _ hb hne]; exact hc i j hi hj
  · omega
theorem CycX.grownx {w w' : World} {g x : Nat} {v : Value} {cs : List Cu} (h : CycX w g x v cs) (hg : w.grownBy w' (some x)) : CycX w' g x v cs := by
  obtain ⟨A, b, off, cap, hv, hn, hA, hc⟩ := h
  refine ⟨A, b, off, cap, hv, hn, hA.imp (fun ⟨a, c, d⟩ => ⟨a, Nat.lt_of_lt_of_le c hg.size, d⟩) id, fun i j hi hj => ?_⟩
  rcases hA with ⟨_, hb, _, hne⟩ | h0
  · rw [gcell hg b _ hb hne]; exact hc i j hi hj
  · omega
theorem CycX.owned {w : World} {base g x : Nat} {v : Value} {cs : List Cu} (h : w.ownsRow base 54 2 v cs.length (flat cs.length 2 (cyF cs))) (hg : g < base) (hx : x < base) : CycX w g x v cs := by
  have h0 := Sl.of_owns h (fun i j hi hj => flat_get hi hj)
  obtain ⟨h1, ⟨hv, hn⟩ | ⟨b, cap, cur, hv, hb, hh, hn, _⟩⟩ := h
  · exact ⟨none, 0, 0, 0, by rw [hv, hn], by omega, .inr hn, fun i j hi hj => by omega⟩
  · obtain ⟨A, b', off, cap', hv', hn', hA', hc'⟩ := h0
    rw [hv] at hv'
    injection hv' with e1 e2 e3
    subst e3
    rcases hA' with ⟨hA', hb'⟩ | h0
    · rw [hA'] at e1
      injection e1 with e1
      injection e1 with e1 e4
      subst e1
      subst e4
      exact ⟨_, b, 0, cap, hv, hn, .inl ⟨rfl, hb', by omega, by omega⟩, hc'⟩
    · exact ⟨_, b, 0, cap, hv, hn, .inr h0, fun i j hi => by omega⟩

/-- The feeders' block while they are copied. -/
def FesX (w0 w : World) (x : Nat) (ve : Value) (es : List Fe) : Prop :=
  (es.length = 0 ∧ ∃ A cap, ve = .slice A 0 cap) ∨ ∃ (g cap : Nat) (C : Array Value) (cv : Nat → Value), ve = .slice (some ⟨g, 0, none⟩) es.length cap ∧ es.length ≤ cap ∧ w0.heap.size ≤ g ∧ w.heap[g]? = some (.cells C 74 (0, 0)) ∧ es.length * 7 ≤ C.size ∧
    (∀ i j, i < es.length → j < 7 → C[i * 7 + j]? = some (feC (es.getD i Fe.z) (cv i) j)) ∧ (∀ i, i < es.length → CycX w g x (cv i) (es.getD i Fe.z).cs)
structure CopyX (w0 w : World) (x pb : Nat) (vg vf ve : Value) (gs : List Ga) (fs : List Fu) (es : List Fe) : Prop where
  box : w.heap[pb]? = some (.cells #[vg, vf, ve] 63 (0, 0))
  g : w.ownsRow w0.heap.size 23 5 vg gs.length (flat gs.length 5 (gaF gs))
  f : w.ownsRow w0.heap.size 30 2 vf fs.length (flat fs.length 2 (fuF fs))
  e : FesX w0 w x ve es
  below : Below w0.heap.size w0 w

theorem wir_of {w0 w : World} {x : Nat} {vg vf ve : Value} {gs : List Ga} {fs : List Fu} {es : List Fe} (hg : w.ownsRow w0.heap.size 23 5 vg gs.length (flat gs.length 5 (gaF gs)))
    (hf : w.ownsRow w0.heap.size 30 2 vf fs.length (flat fs.length 2 (fuF fs))) (he : FesX w0 w x ve es) : Wir w w.heap.size vg vf ve gs fs es := by
  refine ⟨Sl.of_owns hg (fun i j hi hj => flat_get hi hj), Sl.of_owns hf (fun i j hi hj => flat_get hi hj), ?_⟩
  rcases he with ⟨h0, A, cap, rfl⟩ | ⟨g, cap, C, cv, rfl, hn, hg, hh, hs, hc, hcy⟩
  · refine ⟨fun _ => .slice none 0 0, ⟨A, 0, 0, cap, by rw [h0], by omega, .inr h0, fun i j hi => by omega⟩, fun i hi => by omega⟩
  · refine ⟨cv, ⟨_, g, 0, cap, rfl, hn, .inl ⟨rfl, box_lt hh⟩, fun i j hi hj => ?_⟩, fun i hi => (hcy i hi).cyc⟩
    rw [cellOf hh, Nat.zero_add]
    exact hc i j hi hj
theorem FesX.grownx {w0 w w' : World} {x : Nat} {ve : Value} {es : List Fe} (h : FesX w0 w x ve es) (hg : w.grownBy w' (some x)) (hx : x < w0.heap.size) : FesX w0 w' x ve es := by
  rcases h with h0 | ⟨g, cap, C, cv, hv, hn, hg', hh, hs, hc, hcy⟩
  · exact .inl h0
  · exact .inr ⟨g, cap, C, cv, hv, hn, hg', (hg.block g (box_lt hh) (fun e => by injection e with e; omega)).trans hh, hs, hc, fun i hi => (hcy i hi).grownx hg⟩

theorem FesX.form {w0 w : World} {x : Nat} {ve : Value} {es : List Fe} (h : FesX w0 w x ve es) : ∃ A cap, ve = .slice A es.length cap := by
  rcases h with ⟨h0, A, cap, h1⟩ | ⟨g, cap, C, cv, h1, _⟩
  · exact ⟨A, cap, by rw [h1, h0]⟩
  · exact ⟨_, cap, h1⟩
/-- One element's cycle replaced. -/
theorem FesX.step {w0 w w' : World} {es : List Fe} {g x cap k : Nat} {C : Array Value} {cv : Nat → Value} {v' : Value} (hk : k < es.length) (hn : es.length ≤ cap) (hg : w0.heap.size ≤ g)
    (hs : es.length * 7 ≤ C.size) (hc : ∀ i j, i < es.length → j < 7 → C[i * 7 + j]? = some (feC (es.getD i Fe.z) (cv i) j)) (hcy : ∀ i, i < es.length → CycX w g x (cv i) (es.getD i Fe.z).cs)
    (hgr : w.grownBy w' (some g)) (hv : CycX w' g x v' (es.getD k Fe.z).cs) {f : Fe} (hf : es.getD k Fe.z = f)
    (hh : w'.heap[g]? = some (.cells ((((C.setIfInBounds (k * 7 + 3) v').setIfInBounds (k * 7 + 3 + 1) (.int .i64 f.n.len)).setIfInBounds (k * 7 + 3 + 2) (.int .i64 f.n.drop)).setIfInBounds (k * 7 + 3 + 3) (.int .i64 f.n.amb)) 74 (0, 0))) :
    FesX w0 w' x (.slice (some ⟨g, 0, none⟩) es.length cap) es := by
  subst hf
  refine .inr ⟨g, cap, _, fun i => if i = k then v' else cv i, rfl, hn, hg, hh, by simpa using hs, fun i j hi hj => ?_, fun i hi => ?_⟩
  · have h0 := hc i j hi hj
    have hlt : i * 7 + j < C.size := (Array.getElem?_eq_some_iff.1 h0).1
    simp only [Array.getElem?_setIfInBounds, Array.size_setIfInBounds]
    by_cases e : i = k
    · subst e
      match j, hj with
      | 0, _ => rw [if_neg (by omega), if_neg (by omega), if_neg (by omega), if_neg (by omega)]; exact h0
      | 1, _ => rw [if_neg (by omega), if_neg (by omega), if_neg (by omega), if_neg (by omega)]; exact h0
      | 2, _ => rw [if_neg (by omega), if_neg (by omega), if_neg (by omega), if_neg (by omega)]; exact h0
      | 3, _ => rw [if_neg (by omega), if_neg (by omega), if_neg (by omega), if_pos (by omega), if_pos (by omega)]; simp [feC]
      | 4, _ => rw [if_neg (by omega), if_neg (by omega), if_pos (by omega), if_pos (by omega)]; rfl
      | 5, _ => rw [if_neg (by omega), if_pos (by omega), if_pos (by omega)]; rfl
      | 6, _ => rw [if_pos (by omega), if_pos (by omega)]; rfl
    · rw [if_neg (by omega), if_neg (by omega), if_neg (by omega), if_neg (by omega), if_neg e]
      exact h0
  · by_cases e : i = k
    · subst e; simpa using hv
    · simpa [e] using (hcy i hi).grown hgr

theorem feC_one {w : World} {B : Nat} {es : List Fe} {cv : Nat → Value} (h : ∀ i, i < es.length → Cyc w B (cv i) (es.getD i Fe.z).cs) : ∀ i j, i < es.length → j < 7 → (feC (es.getD i Fe.z) (cv i) j).oneCell' = true := by
  intro i j hi hj
  obtain ⟨C, cap, hv⟩ := Sl.form (h i hi)
  match j, hj with
  | 0, _ => rfl
  | 1, _ => rfl
  | 2, _ => rfl
  | 3, _ => show (cv i).oneCell' = true; rw [hv]; rfl
  | 4, _ => rfl
  | 5, _ => rfl
  | 6, _ => rfl
theorem owns_form {w : World} {base e size n : Nat} {v : Value} {xs : List Value} (h : w.ownsRow base e size v n xs) : ∃ A cap, v = .slice A n cap := by
  obtain ⟨_, ⟨h1, h2⟩ | ⟨g, cap, cur, h1, _⟩⟩ := h
  · exact ⟨none, 0, by rw [h1, h2]⟩
  · exact ⟨_, cap, h1⟩
/-- What each operation of the copy's first statement leaves. -/
def copyR (w0 : World) (gs : List Ga) (fs : List Fu) (es : List Fe) (cv : Nat → Value) (j : Nat) (v : Value) (w : World) : Prop :=
  match j with
  | 0 => w0.heap.size ≤ w.heap.size ∧ ∃ g, v = .slice (some ⟨g, 0, none⟩) 0 0 ∧ w.ownsRow w0.heap.size 23 5 v 0 []
  | 4 => w0.heap.size ≤ w.heap.size ∧ ∃ g, v = .slice (some ⟨g, 0, none⟩) 0 0 ∧ w.ownsRow w0.heap.size 30 2 v 0 []
  | 8 => w0.heap.size ≤ w.heap.size ∧ ∃ g, v = .slice (some ⟨g, 0, none⟩) 0 0 ∧ w.ownsRow w0.heap.size 74 7 v 0 []
  | 3 => w.ownsRow w0.heap.size 23 5 v gs.length (flat gs.length 5 (gaF gs))
  | 7 => w.ownsRow w0.heap.size 30 2 v fs.length (flat fs.length 2 (fuF fs))
  | 11 => w.ownsRow w0.heap.size 74 7 v es.length (flat es.length 7 (fun i j => feC (es.getD i Fe.z) (cv i) j))
  | 12 => ∃ a b c, v = .agg #[a, b, c] ∧ w.ownsRow w0.heap.size 23 5 a gs.length (flat gs.length 5 (gaF gs)) ∧ w.ownsRow w0.heap.size 30 2 b fs.length (flat fs.length 2 (fuF fs)) ∧ w.ownsRow w0.heap.size 74 7 c es.length (flat es.length 7 (fun i j => feC (es.getD i Fe.z) (cv i) j))
  | 13 => ∃ p, v = .pointer (some ⟨p, 0, none⟩) ∧ w0.heap.size ≤ p ∧ w.heap[p]? = some (.cells #[.slice none 0 0, .slice none 0 0, .slice none 0 0] 63 (0, 0))
  | _ => True
theorem copyR_keep {w0 : World} {gs : List Ga} {fs : List Fu} {es : List Fe} {cv : Nat → Value} (j : Nat) {v : Value} {w w' : World} (hb : Below w.heap.size w w') (h : copyR w0 gs fs es cv j v w) : copyR w0 gs fs es cv j v w' := by
  unfold copyR at *
  split at h
  · obtain ⟨h0, g, h1, h2⟩ := h; exact ⟨Nat.le_trans h0 hb.size, g, h1, owns_below h2 hb⟩
  · obtain ⟨h0, g, h1, h2⟩ := h; exact ⟨Nat.le_trans h0 hb.size, g, h1, owns_below h2 hb⟩
  · obtain ⟨h0, g, h1, h2⟩ := h; exact ⟨Nat.le_trans h0 hb.size, g, h1, owns_below h2 hb⟩
  · exact owns_below h hb
  · exact owns_below h hb
  · exact owns_below h hb
  · obtain ⟨a, b, c, h1, h2, h3, h4⟩ := h; exact ⟨a, b, c, h1, owns_below h2 hb, owns_below h3 hb, owns_below h4 hb⟩
  · obtain ⟨p, h1, h2, h3⟩ := h; exact ⟨p, h1, h2, heap_below h3 hb⟩
  · trivial

set_option maxRecDepth 100000 in
set_option maxHeartbeats 4000000 in
theorem Copy_any (gs : List Ga) (fs : List Fu) (es : List Fe) (gv fv ev : Value) (w : World) (hz : WSz gs fs es) (h : Wir w w.heap.size gv fv ev gs fs es) :
    Calls Try.prog 39 #[.agg #[gv, fv, ev]] w fun e w' => ∃ gv' fv' ev', e = .returned (.agg #[gv', fv', ev']) ∧ Wir w' w'.heap.size gv' fv' ev' gs fs es ∧ Below w.heap.size w w' := by
  obtain ⟨i0, hi0, hz0, hz1, hz2⟩ := info_parts infoGa
  obtain ⟨i1, hi1, hy0, hy1, hy2⟩ := info_parts infoFu
  obtain ⟨i2, hi2, hx0, hx1, hx2⟩ := info_parts infoFe
  have H := hide h
  obtain ⟨A0, cap0, rfl⟩ := Sl.form h.g
  obtain ⟨A1, cap1, rfl⟩ := Sl.form h.f
  obtain ⟨cv, hsl, hcy⟩ := h.e
  obtain ⟨A, cap, rfl⟩ := Sl.form hsl
  have HSL := hide hsl
  have HCY := hide hcy
  have HZ_ := hide hz
  have hg30 := hz.g
  have hf30 := hz.f
  have he30 := hz.e
  clear h hsl hcy hz
  go_enter Try.func39, Try.ntmps39
  go_upto_region 1 with (fail)
  generalize hw0 : World.alloc _ _ = w0
  obtain ⟨hb0, hb1, hB0, hs0⟩ := alloc2 hw0
  clear hw0
  have hwi : WiAt w0 w.heap.size (.slice A0 gs.length cap0) (.slice A1 fs.length cap1) (.slice A es.length cap) := hb0
  have HR := hide hb1
  have hl0 : w.heap.size < w0.heap.size := by omega
  clear hs0 hb1 hb0
  obtain ⟨k0, k1, k2, _⟩ := wi3 hwi (Below.refl _ w0)
  have HB0 := hide hB0
  go_cut [3] from 4 to 37 (fun p wc => ∃ pb vg vf ve, p = .pointer (some ⟨pb, 0, none⟩) ∧ w0.heap.size ≤ pb ∧ Hid (CopyX w0 wc (w.heap.size + 1) pb vg vf ve gs fs es))
  case first =>
    refine wp_region_held_drew (S := (fun w' => Below w0.heap.size w0 w')) (by kernel_rfl) ?_ (fun hHeld => ?_)
    · try dsimp only
      exact (by repeat (first | exact Below.refl _ _ | assumption | refine Below.drew ?_ | refine Below.drewN ?_ _ | refine Below.allocT ?_ (Nat.le_refl _) _ | refine Below.setCell ?_ (by simp <;> omega) _ | refine Below.to ?_ (by assumption) (Nat.le_refl _)))
    refine wpAnyH_take (i := 1) (v := ?v2_1) rfl (by kernel_rfl) (by kernel_rfl) (by kernel_rfl) (fun _ _ _ h => h) (Or.inl ⟨by rfl, ?y2_1⟩) (by assumption) ?r2_1
    case' y2_1 => (intro w hSw; (try dsimp only at hSw); (try have hlS := HLK.out _ hSw); obtain ⟨hcS, hfS⟩ := bcell hSw; clear hSw; go_simp; try with_reducible rfl)
    try simp only [Act.put, List.getElem_toArray, List.getElem_cons_succ, List.getElem_cons_zero, List.setIfInBounds_toArray, List.set_cons_zero, List.set_cons_succ]
    refine wpAnyH_take (i := 2) (v := ?v2_2) rfl (by kernel_rfl) (by kernel_rfl) (by kernel_rfl) (fun _ _ _ h => h) (Or.inl ⟨by rfl, ?y2_2⟩) (by assumption) ?r2_2
    case' y2_2 => (intro w hSw; (try dsimp only at hSw); (try have hlS := HLK.out _ hSw); obtain ⟨hcS, hfS⟩ := bcell hSw; clear hSw; go_simp; try with_reducible rfl)
    try simp only [Act.put, List.getElem_toArray, List.getElem_cons_succ, List.getElem_cons_zero, List.setIfInBounds_toArray, List.set_cons_zero, List.set_cons_succ]
    refine wpAnyH_take (i := 5) (v := ?v2_5) rfl (by kernel_rfl) (by kernel_rfl) (by kernel_rfl) (fun _ _ _ h => h) (Or.inl ⟨by rfl, ?y2_5⟩) (by assumption) ?r2_5
    case' y2_5 => (intro w hSw; (try dsimp only at hSw); (try have hlS := HLK.out _ hSw); obtain ⟨hcS, hfS⟩ := bcell hSw; clear hSw; go_simp; try with_reducible rfl)
    try simp only [Act.put, List.getElem_toArray, List.getElem_cons_succ, List.getElem_cons_zero, List.setIfInBounds_toArray, List.set_cons_zero, List.set_cons_succ]
    refine wpAnyH_take (i := 6) (v := ?v2_6) rfl (by kernel_rfl) (by kernel_rfl) (by kernel_rfl) (fun _ _ _ h => h) (Or.inl ⟨by rfl, ?y2_6⟩) (by assumption) ?r2_6
    case' y2_6 => (intro w hSw; (try dsimp only at hSw); (try have hlS := HLK.out _ hSw); obtain ⟨hcS, hfS⟩ := bcell hSw; clear hSw; go_simp; try with_reducible rfl)
    try simp only [Act.put, List.getElem_toArray, List.getElem_cons_succ, List.getElem_cons_zero, List.setIfInBounds_toArray, List.set_cons_zero, List.set_cons_succ]
    refine wpAnyH_take (i := 9) (v := ?v2_9) rfl (by kernel_rfl) (by kernel_rfl) (by kernel_rfl) (fun _ _ _ h => h) (Or.inl ⟨by rfl, ?y2_9⟩) (by assumption) ?r2_9
    case' y2_9 => (intro w hSw; (try dsimp only at hSw); (try have hlS := HLK.out _ hSw); obtain ⟨hcS, hfS⟩ := bcell hSw; clear hSw; go_simp; try with_reducible rfl)
    try simp only [Act.put, List.getElem_toArray, List.getElem_cons_succ, List.getElem_cons_zero, List.setIfInBounds_toArray, List.set_cons_zero, List.set_cons_succ]
    refine wpAnyH_take (i := 10) (v := ?v2_10) rfl (by kernel_rfl) (by kernel_rfl) (by kernel_rfl) (fun _ _ _ h => h) (Or.inl ⟨by rfl, ?y2_10⟩) (by assumption) ?r2_10
    case' y2_10 => (intro w hSw; (try dsimp only at hSw); (try have hlS := HLK.out _ hSw); obtain ⟨hcS, hfS⟩ := bcell hSw; clear hSw; go_simp; try with_reducible rfl)
    try simp only [Act.put, List.getElem_toArray, List.getElem_cons_succ, List.getElem_cons_zero, List.setIfInBounds_toArray, List.set_cons_zero, List.set_cons_succ]
    refine wpAnyH_start [0, 3, 4, 7, 8, 11, 12, 13] (fun j => match j with | 0 => 5 | 3 => 8 | 4 => 9 | 7 => 12 | 8 => 13 | 11 => 16 | 12 => 17 | 13 => 3 | _ => 0) (copyR w0 gs fs es cv) 1 rfl (by kernel_rfl) (by kernel_rfl) (by decide) (by decide) (by kernel_rfl) hHeld ?hkeep ?hstep ?hend
    case hkeep => exact fun j _ v w w' hb h => copyR_keep j hb h
    case hstep =>
      intro j hj tv w5 hS hd
      have hsz0 : w0.heap.size ≤ w5.heap.size := hS.size
      simp only [List.mem_cons, List.not_mem_nil, or_false] at hj
      rcases hj with rfl | rfl | rfl | rfl | rfl | rfl | rfl | rfl
      · refine wpOp_step rfl (fun K hK => ?_)
        generalize hax : putAll _ _ tv _ = ax at hK ⊢
        simp only [putAll, Act.put, List.setIfInBounds_toArray, List.set_cons_zero, List.set_cons_succ] at hax
        rw [← hax]
        go_simp
        exact hK _ _ ⟨⟨_, by rw [← hax]; rfl, by simp; omega, _, rfl, World.ownsRow_made w5 #[] 0 hsz0 (by unfold maxLen; omega) rfl⟩, (by repeat (first | exact Below.refl _ _ | assumption | refine Below.drew ?_ | refine Below.drewN ?_ _ | refine Below.allocT ?_ (Nat.le_refl _) _ | refine Below.setCell ?_ (by simp <;> omega) _ | refine Below.to ?_ (by assumption) (Nat.le_refl _))), (by repeat (first | exact Below.refl _ _ | assumption | refine Below.drew ?_ | refine Below.drewN ?_ _ | refine Below.allocT ?_ (Nat.le_refl _) _ | refine Below.setCell ?_ (by simp <;> omega) _ | refine Below.to ?_ (by assumption) (Nat.le_refl _)))⟩
      · obtain ⟨_, g, hg, hown⟩ := hd 0 (by decide) (by kernel_rfl)
        rw [hg] at hown
        refine wpOp_step rfl (fun K hK => ?_)
        generalize hax : putAll _ _ tv _ = ax at hK ⊢
        simp only [putAll, Act.put, List.setIfInBounds_toArray, List.set_cons_zero, List.set_cons_succ] at hax
        have evs : ax.eval (.tmp 5) = .slice (some ⟨g, 0, none⟩) 0 0 := by rw [← hax]; exact hg
        have ex := congrArg (fun a => Act.eval a (.tmp 7)) hax.symm
        refine step_append_fresh _ (by rfl) (.tmp 5) (.tmp 7) _ (by rfl) w0.heap.size 23 i0 _ 5 40 Try.underlying57 hi0 hz0 hz1 hz2 (by rfl) (by omega) g evs hown w5.heap.size A0 gs.length cap0 (flat gs.length 5 (gaF gs)) ex (Sl.reads ((Sl.below H.out.g (Below.to HB0.out hS (Nat.le_refl _))).more (by have := HB0.out.size; omega)) (by omega)) (flat_one (by omega) (gaF_one gs)) (by unfold maxLen; omega) (by omega) hsz0 ?_
        intro v' w' hown' hB'
        exact hK _ _ ⟨⟨_, rfl, hown'⟩, hB', (by repeat (first | exact Below.refl _ _ | assumption | refine Below.drew ?_ | refine Below.drewN ?_ _ | refine Below.allocT ?_ (Nat.le_refl _) _ | refine Below.setCell ?_ (by simp <;> omega) _ | refine Below.to ?_ (by assumption) (Nat.le_refl _)))⟩
      · refine wpOp_step rfl (fun K hK => ?_)
        generalize hax : putAll _ _ tv _ = ax at hK ⊢
        simp only [putAll, Act.put, List.setIfInBounds_toArray, List.set_cons_zero, List.set_cons_succ] at hax
        rw [← hax]
        go_simp
        exact hK _ _ ⟨⟨_, by rw [← hax]; rfl, by simp; omega, _, rfl, World.ownsRow_made w5 #[] 0 hsz0 (by unfold maxLen; omega) rfl⟩, (by repeat (first | exact Below.refl _ _ | assumption | refine Below.drew ?_ | refine Below.drewN ?_ _ | refine Below.allocT ?_ (Nat.le_refl _) _ | refine Below.setCell ?_ (by simp <;> omega) _ | refine Below.to ?_ (by assumption) (Nat.le_refl _))), (by repeat (first | exact Below.refl _ _ | assumption | refine Below.drew ?_ | refine Below.drewN ?_ _ | refine Below.allocT ?_ (Nat.le_refl _) _ | refine Below.setCell ?_ (by simp <;> omega) _ | refine Below.to ?_ (by assumption) (Nat.le_refl _)))⟩
      · obtain ⟨_, g, hg, hown⟩ := hd 4 (by decide) (by kernel_rfl)
        rw [hg] at hown
        refine wpOp_step rfl (fun K hK => ?_)
        generalize hax : putAll _ _ tv _ = ax at hK ⊢
        simp only [putAll, Act.put, List.setIfInBounds_toArray, List.set_cons_zero, List.set_cons_succ] at hax
        have evs : ax.eval (.tmp 9) = .slice (some ⟨g, 0, none⟩) 0 0 := by rw [← hax]; exact hg
        have ex := congrArg (fun a => Act.eval a (.tmp 11)) hax.symm
        refine step_append_fresh _ (by rfl) (.tmp 9) (.tmp 11) _ (by rfl) w0.heap.size 30 i1 _ 2 16 Try.underlying60 hi1 hy0 hy1 hy2 (by rfl) (by omega) g evs hown w5.heap.size A1 fs.length cap1 (flat fs.length 2 (fuF fs)) ex (Sl.reads ((Sl.below H.out.f (Below.to HB0.out hS (Nat.le_refl _))).more (by have := HB0.out.size; omega)) (by omega)) (flat_one (by omega) (fuF_one fs)) (by unfold maxLen; omega) (by omega) hsz0 ?_
        intro v' w' hown' hB'
        exact hK _ _ ⟨⟨_, rfl, hown'⟩, hB', (by repeat (first | exact Below.refl _ _ | assumption | refine Below.drew ?_ | refine Below.drewN ?_ _ | refine Below.allocT ?_ (Nat.le_refl _) _ | refine Below.setCell ?_ (by simp <;> omega) _ | refine Below.to ?_ (by assumption) (Nat.le_refl _)))⟩
      · refine wpOp_step rfl (fun K hK => ?_)
        generalize hax : putAll _ _ tv _ = ax at hK ⊢
        simp only [putAll, Act.put, List.setIfInBounds_toArray, List.set_cons_zero, List.set_cons_succ] at hax
        rw [← hax]
        go_simp
        exact hK _ _ ⟨⟨_, by rw [← hax]; rfl, by simp; omega, _, rfl, World.ownsRow_made w5 #[] 0 hsz0 (by unfold maxLen; omega) rfl⟩, (by repeat (first | exact Below.refl _ _ | assumption | refine Below.drew ?_ | refine Below.drewN ?_ _ | refine Below.allocT ?_ (Nat.le_refl _) _ | refine Below.setCell ?_ (by simp <;> omega) _ | refine Below.to ?_ (by assumption) (Nat.le_refl _))), (by repeat (first | exact Below.refl _ _ | assumption | refine Below.drew ?_ | refine Below.drewN ?_ _ | refine Below.allocT ?_ (Nat.le_refl _) _ | refine Below.setCell ?_ (by simp <;> omega) _ | refine Below.to ?_ (by assumption) (Nat.le_refl _)))⟩
      · obtain ⟨_, g, hg, hown⟩ := hd 8 (by decide) (by kernel_rfl)
        rw [hg] at hown
        refine wpOp_step rfl (fun K hK => ?_)
        generalize hax : putAll _ _ tv _ = ax at hK ⊢
        simp only [putAll, Act.put, List.setIfInBounds_toArray, List.set_cons_zero, List.set_cons_succ] at hax
        have evs : ax.eval (.tmp 13) = .slice (some ⟨g, 0, none⟩) 0 0 := by rw [← hax]; exact hg
        have ex := congrArg (fun a => Act.eval a (.tmp 15)) hax.symm
        refine step_append_fresh _ (by rfl) (.tmp 13) (.tmp 15) _ (by rfl) w0.heap.size 74 i2 _ 7 72 Try.underlying61 hi2 hx0 hx1 hx2 (by rfl) (by omega) g evs hown w5.heap.size A es.length cap (flat es.length 7 (fun i j => feC (es.getD i Fe.z) (cv i) j)) ex (Sl.reads ((Sl.below HSL.out (Below.to HB0.out hS (Nat.le_refl _))).more (by have := HB0.out.size; omega)) (by omega)) (flat_one' (by omega) (feC_one HCY.out)) (by unfold maxLen; omega) (by omega) hsz0 ?_
        intro v' w' hown' hB'
        exact hK _ _ ⟨⟨_, rfl, hown'⟩, hB', (by repeat (first | exact Below.refl _ _ | assumption | refine Below.drew ?_ | refine Below.drewN ?_ _ | refine Below.allocT ?_ (Nat.le_refl _) _ | refine Below.setCell ?_ (by simp <;> omega) _ | refine Below.to ?_ (by assumption) (Nat.le_refl _)))⟩
      · have h3 := hd 3 (by decide) (by kernel_rfl)
        have h7 := hd 7 (by decide) (by kernel_rfl)
        have h11 := hd 11 (by decide) (by kernel_rfl)
        have HD := hide (And.intro h3 (And.intro h7 h11))
        obtain ⟨A3, c3, e3⟩ := owns_form h3
        obtain ⟨A7, c7, e7⟩ := owns_form h7
        obtain ⟨A11, c11, e11⟩ := owns_form h11
        rw [e3, e7, e11] at HD
        clear hd h3 h7 h11
        refine wpOp_step rfl (fun K hK => ?_)
        generalize hax : putAll _ _ tv _ = ax at hK ⊢
        simp only [putAll, Act.put, List.setIfInBounds_toArray, List.set_cons_zero, List.set_cons_succ, e3, e7, e11] at hax
        rw [← hax]
        go_simp
        exact hK _ _ ⟨⟨_, by rw [← hax]; rfl, _, _, _, rfl, HD.out.1, HD.out.2.1, HD.out.2.2⟩, (by repeat (first | exact Below.refl _ _ | assumption | refine Below.drew ?_ | refine Below.drewN ?_ _ | refine Below.allocT ?_ (Nat.le_refl _) _ | refine Below.setCell ?_ (by simp <;> omega) _ | refine Below.to ?_ (by assumption) (Nat.le_refl _))), (by repeat (first | exact Below.refl _ _ | assumption | refine Below.drew ?_ | refine Below.drewN ?_ _ | refine Below.allocT ?_ (Nat.le_refl _) _ | refine Below.setCell ?_ (by simp <;> omega) _ | refine Below.to ?_ (by assumption) (Nat.le_refl _)))⟩
      · refine wpOp_step rfl (fun K hK => ?_)
        generalize hax : putAll _ _ tv _ = ax at hK ⊢
        simp only [putAll, Act.put, List.setIfInBounds_toArray, List.set_cons_zero, List.set_cons_succ] at hax
        rw [← hax]
        go_simp
        exact hK _ _ ⟨⟨_, by rw [← hax]; rfl, _, rfl, hsz0, heap_alloc_new _ _⟩, (by repeat (first | exact Below.refl _ _ | assumption | refine Below.drew ?_ | refine Below.drewN ?_ _ | refine Below.allocT ?_ (Nat.le_refl _) _ | refine Below.setCell ?_ (by simp <;> omega) _ | refine Below.to ?_ (by assumption) (Nat.le_refl _))), (by repeat (first | exact Below.refl _ _ | assumption | refine Below.drew ?_ | refine Below.drewN ?_ _ | refine Below.allocT ?_ (Nat.le_refl _) _ | refine Below.setCell ?_ (by simp <;> omega) _ | refine Below.to ?_ (by assumption) (Nat.le_refl _)))⟩
    case hend =>
      intro tv w5 hS hR
      obtain ⟨a, b, c, h12, hg, hf, he⟩ := hR 12 (by decide)
      obtain ⟨p, h13, hp, hpb⟩ := hR 13 (by decide)
      clear hR
      obtain ⟨A3, c3, rfl⟩ := owns_form hg
      obtain ⟨A7, c7, rfl⟩ := owns_form hf
      obtain ⟨A11, c11, rfl⟩ := owns_form he
      have p0 : w5.cell? ⟨p, 0, none⟩ = _ := cellOf hpb 0
      have p1 : w5.cell? ⟨p, 1, none⟩ = _ := cellOf hpb 1
      have p2 : w5.cell? ⟨p, 2, none⟩ = _ := cellOf hpb 2
      have q0 := unfrozenOf hpb 0
      have q1 := unfrozenOf hpb 1
      have q2 := unfrozenOf hpb 2
      have HG := hide hg
      have HF := hide hf
      have HE := hide he
      have HP := hide hpb
      have hlp := box_lt hpb
      clear hg hf he hpb
      simp only [putAll, Act.put, List.setIfInBounds_toArray, List.set_cons_zero, List.set_cons_succ, h12, h13]
      refine wpAnyH_ready (rs := [14]) (by kernel_rfl) (by simp) ?_
      refine AllReadyH.cons rfl (fun K hK => ?_) AllReadyH.nil
      go_simp
      have hne : ∀ g, g < w0.heap.size → g ≠ p := fun g hg => by omega
      have hgr : w5.grownBy (((w5.setCell ⟨p, 0, none⟩ (.slice A3 gs.length c3)).setCell ⟨p, 1, none⟩ (.slice A7 fs.length c7)).setCell ⟨p, 2, none⟩ (.slice A11 es.length c11)) (some p) := by
        refine only_setCell (only_setCell (only_setCell (only_refl _ _) ?_ _) ?_ _) ?_ _
        all_goals exact .inl rfl
      have hbw : Below w0.heap.size w0 (((w5.setCell ⟨p, 0, none⟩ (.slice A3 gs.length c3)).setCell ⟨p, 1, none⟩ (.slice A7 fs.length c7)).setCell ⟨p, 2, none⟩ (.slice A11 es.length c11)) := by
        refine Below.setCell (Below.setCell (Below.setCell hS ?_ _) ?_ _) ?_ _
        all_goals exact hp
      refine hK.out _ _ ?_ (fun hNext => ?_)
      · exact hbw
      · clear hK K
        refine wpAnyH_done (by kernel_rfl) ?_ _
        go_wp2_with fail
        go_meet
        case rel =>
          have hf3 : ∀ {e sz n : Nat} {v : Value} {xs : List Value}, e ≠ 63 → w5.ownsRow w0.heap.size e sz v n xs → (((w5.setCell ⟨p, 0, none⟩ (.slice A3 gs.length c3)).setCell ⟨p, 1, none⟩ (.slice A7 fs.length c7)).setCell ⟨p, 2, none⟩ (.slice A11 es.length c11)).ownsRow w0.heap.size e sz v n xs := fun hne h => owns_grown h hgr HP.out hne
          refine ⟨p, _, _, _, rfl, hp, setCellOf (setCellOf (setCellOf HP.out _) _) _, hf3 (by decide) HG.out, hf3 (by decide) HF.out, ?_, hbw⟩
          have he2 := hf3 (by decide) HE.out
          rcases Nat.eq_zero_or_pos es.length with h0 | h0
          · refine .inl ⟨h0, ?_⟩
            rcases he2.2 with ⟨h1, _⟩ | ⟨g, cp, cur, h1, _⟩
            · exact ⟨none, 0, h1⟩
            · exact ⟨_, cp, by rw [h1, h0]⟩
          · rcases he2.2 with ⟨_, h1⟩ | ⟨g, cp, cur, h1, h2, h3, h4, _, h5, h6⟩
            · omega
            · have hcells : ∀ i j, i < es.length → j < 7 → cur[i * 7 + j]? = some (feC (es.getD i Fe.z) (cv i) j) := fun i j hi hj => by
                have hx := flat_get (f := fun i j => feC (es.getD i Fe.z) (cv i) j) hi hj
                rw [← h6, List.getElem?_take, if_pos (idx_lt hi hj)] at hx
                simpa using hx
              exact .inr ⟨g, cp, cur, cv, h1, h4, h2, h3, by rw [h5]; exact Nat.mul_le_mul_right _ h4, hcells, fun i hi => CycX.of (Sl.more (Sl.below (HCY.out i hi) (Below.to HB0.out hbw (Nat.le_refl _))) (Nat.le_refl _)) (by have := HB0.out.size; have := hbw.size; omega) (by have := HB0.out.size; omega) (by omega)⟩
  case rest =>
    obtain ⟨pb, vg, vf, ve, rfl, hpb, hX⟩ := hcut
    clear k0 k1 k2
    obtain ⟨Ag, cpg, rfl⟩ := owns_form hX.out.g
    obtain ⟨Af, cpf, rfl⟩ := owns_form hX.out.f
    obtain ⟨Ae, cpe, rfl⟩ := hX.out.e.form
    go_wp2_with fail
    go_loopw [4] (fun i wr => ∃ k : Nat, k ≤ es.length ∧ i = .int .i64 k ∧ Hid (CopyX w0 wr (w.heap.size + 1) pb (.slice Ag gs.length cpg) (.slice Af fs.length cpf) (.slice Ae es.length cpe) gs fs es)) (fun i _ => es.length - (intOf i).toNat)
    case atStart => exact ⟨0, Nat.zero_le _, rfl, hX.out⟩
    case round =>
      obtain ⟨k, hk, rfl, hX2⟩ := hrel
      clear hX
      have hbox := hX2.out.box
      have j0 : wr.cell? ⟨pb, 0, none⟩ = some (.slice Ag gs.length cpg) := cellOf hbox 0
      have j1 : wr.cell? ⟨pb, 1, none⟩ = some (.slice Af fs.length cpf) := cellOf hbox 1
      have j2 : wr.cell? ⟨pb, 2, none⟩ = some (.slice Ae es.length cpe) := cellOf hbox 2
      have HBX := hide hbox
      have hlpb : pb < wr.heap.size := box_lt hbox
      clear hbox
      by_cases hlt : k < es.length
      · rcases hX2.out.e with ⟨h0, _⟩ | ⟨g, cap', C, cv', hv, hn, hg, hh, hs, hc, hcy⟩
        · omega
        · injection hv with e1 e2 e3
          subst e1 e3
          have hne : pb ≠ g := fun e => by
            subst e
            have := HBX.out.symm.trans hh
            injection this with this
            injection this with _ this
            exact absurd this (by decide)
          have hlg : g < wr.heap.size := box_lt hh
          obtain ⟨f, hf⟩ : ∃ f, es.getD k Fe.z = f := ⟨_, rfl⟩
          have hck := fun j (hj : j < 7) => hc k j hlt hj
          rw [hf] at hck
          have hyk := hcy k hlt
          rw [hf] at hyk
          obtain ⟨C1, b1, o1, cp1, hv1, hrest⟩ := hyk
          have HYK : Hid (CycX wr g (w.heap.size + 1) (cv' k) f.cs) := by have := hcy k hlt; rw [hf] at this; exact this
          rw [hv1] at HYK
          have c3 := hck 3 (by omega)
          rw [show feC f (cv' k) 3 = cv' k from rfl, hv1] at c3
          have c4 := hck 4 (by omega)
          have c5 := hck 5 (by omega)
          have c6 := hck 6 (by omega)
          have HN20 : Hid (f.cs.length ≤ 20) := by show _; have := HZ_.out.c k hlt; rw [hf] at this; exact this
          have HHF := hide hf
          have HC := hide hc
          have HCV := hide hcy
          have HH := hide hh
          have g3 : wr.cell? ⟨g, k * 7 + 3, none⟩ = some (.slice C1 f.cs.length cp1) := (cellOf hh _).trans c3
          have g4 : wr.cell? ⟨g, k * 7 + 3 + 1, none⟩ = some (.int .i64 f.n.len) := (cellOf hh _).trans c4
          have g5 : wr.cell? ⟨g, k * 7 + 3 + 2, none⟩ = some (.int .i64 f.n.drop) := (cellOf hh _).trans c5
          have g6 : wr.cell? ⟨g, k * 7 + 3 + 3, none⟩ = some (.int .i64 f.n.amb) := (cellOf hh _).trans c6
          have HC3 := hide c3
          have HC4 := hide c4
          have HC5 := hide c5
          have HC6 := hide c6
          clear hrest hv1 hck hf hc hcy hh c3 c4 c5 c6
          have hi0 : (0 : Int) ≤ (k : Int) := by omega
          have hi1 : (k : Int) < (es.length : Int) := by omega
          go_wp2_with fail
          refine wp_region_held_drew (S := (fun w' => wr.grownBy w' (some g))) (by kernel_rfl) ?_ (fun hHeld => ?_)
          · try dsimp only
            (first | exact only_refl _ _ | assumption | exact only_drew (only_refl _ _) | exact hKeep.out | exact only_drew (by assumption) | (refine only_trans hKeep.out ?_; refine only_setCell (only_setCell (only_setCell (only_setCell (only_refl _ _) ?_ _) ?_ _) ?_ _) ?_ _ <;> exact .inl rfl) | (refine only_trans hKeep.out ?_; refine only_setCell (only_refl _ _) ?_ _; exact .inl rfl))
          refine wpAnyH_take (i := 0) (v := ?v1_0) rfl (by kernel_rfl) (by kernel_rfl) (by kernel_rfl) (fun _ _ _ h => h) (Or.inl ⟨by rfl, ?y1_0⟩) (by assumption) ?r1_0
          case' y1_0 => (intro w hSw; (try dsimp only at hSw); have hcS := gcell hSw; clear hSw; go_simp; try with_reducible rfl)
          try simp only [Act.put, List.getElem_toArray, List.getElem_cons_succ, List.getElem_cons_zero, List.setIfInBounds_toArray, List.set_cons_zero, List.set_cons_succ]
          refine wpAnyH_take (i := 1) (v := ?v1_1) rfl (by kernel_rfl) (by kernel_rfl) (by kernel_rfl) (fun _ _ _ h => h) (Or.inl ⟨by rfl, ?y1_1⟩) (by assumption) ?r1_1
          case' y1_1 => (intro w hSw; (try dsimp only at hSw); have hcS := gcell hSw; clear hSw; go_simp; try with_reducible rfl)
          try simp only [Act.put, List.getElem_toArray, List.getElem_cons_succ, List.getElem_cons_zero, List.setIfInBounds_toArray, List.set_cons_zero, List.set_cons_succ]
          refine wpAnyH_take (i := 2) (v := ?v1_2) rfl (by kernel_rfl) (by kernel_rfl) (by kernel_rfl) (fun _ _ _ h => h) (Or.inl ⟨by rfl, ?y1_2⟩) (by assumption) ?r1_2
          case' y1_2 => (intro w hSw; (try dsimp only at hSw); have hcS := gcell hSw; clear hSw; go_simp; try with_reducible rfl)
          try simp only [Act.put, List.getElem_toArray, List.getElem_cons_succ, List.getElem_cons_zero, List.setIfInBounds_toArray, List.set_cons_zero, List.set_cons_succ]
          refine wpAnyH_take (i := 3) (v := ?v1_3) rfl (by kernel_rfl) (by kernel_rfl) (by kernel_rfl) (fun _ _ _ h => h) (Or.inl ⟨by rfl, ?y1_3⟩) (by assumption) ?r1_3
          case' y1_3 => (intro w hSw; (try dsimp only at hSw); have hcS := gcell hSw; clear hSw; go_simp; try with_reducible rfl)
          try simp only [Act.put, List.getElem_toArray, List.getElem_cons_succ, List.getElem_cons_zero, List.setIfInBounds_toArray, List.set_cons_zero, List.set_cons_succ]
          refine wpAnyH_take (i := 4) (v := ?v1_4) rfl (by kernel_rfl) (by kernel_rfl) (by kernel_rfl) (fun _ _ _ h => h) (Or.inl ⟨by rfl, ?y1_4⟩) (by assumption) ?r1_4
          case' y1_4 => (intro w hSw; (try dsimp only at hSw); have hcS := gcell hSw; clear hSw; go_simp; try with_reducible rfl)
          try simp only [Act.put, List.getElem_toArray, List.getElem_cons_succ, List.getElem_cons_zero, List.setIfInBounds_toArray, List.set_cons_zero, List.set_cons_succ]
          refine wpAnyH_take (i := 5) (v := ?v1_5) rfl (by kernel_rfl) (by kernel_rfl) (by kernel_rfl) (fun _ _ _ h => h) (Or.inl ⟨by rfl, ?y1_5⟩) (by assumption) ?r1_5
          case' y1_5 => (intro w hSw; (try dsimp only at hSw); have hcS := gcell hSw; clear hSw; go_simp; try with_reducible rfl)
          try simp only [Act.put, List.getElem_toArray, List.getElem_cons_succ, List.getElem_cons_zero, List.setIfInBounds_toArray, List.set_cons_zero, List.set_cons_succ]
          refine wpAnyH_take (i := 6) (v := ?v1_6) rfl (by kernel_rfl) (by kernel_rfl) (by kernel_rfl) (fun _ _ _ h => h) (Or.inl ⟨by rfl, ?y1_6⟩) (by assumption) ?r1_6
          case' y1_6 => (intro w hSw; (try dsimp only at hSw); have hcS := gcell hSw; clear hSw; go_simp; try with_reducible rfl)
          try simp only [Act.put, List.getElem_toArray, List.getElem_cons_succ, List.getElem_cons_zero, List.setIfInBounds_toArray, List.set_cons_zero, List.set_cons_succ]
          refine wpAnyH_take (i := 7) (v := ?v1_7) rfl (by kernel_rfl) (by kernel_rfl) (by kernel_rfl) (fun _ _ _ h => h) (Or.inl ⟨by rfl, ?y1_7⟩) (by assumption) ?r1_7
          case' y1_7 => (intro w hSw; (try dsimp only at hSw); have hcS := gcell hSw; clear hSw; go_simp; try with_reducible rfl)
          try simp only [Act.put, List.getElem_toArray, List.getElem_cons_succ, List.getElem_cons_zero, List.setIfInBounds_toArray, List.set_cons_zero, List.set_cons_succ]
          refine wpAnyH_ready (rs := [8]) (by kernel_rfl) (by simp) ?_
          refine AllReadyH.cons rfl (fun K hK => ?_) AllReadyH.nil
          go_simp
          refine hK.out _ _ ?_ (fun hNext => ?_)
          · try dsimp only
            (first | exact only_refl _ _ | assumption | exact only_drew (only_refl _ _) | exact hKeep.out | exact only_drew (by assumption) | (refine only_trans hKeep.out ?_; refine only_setCell (only_setCell (only_setCell (only_setCell (only_refl _ _) ?_ _) ?_ _) ?_ _) ?_ _ <;> exact .inl rfl) | (refine only_trans hKeep.out ?_; refine only_setCell (only_refl _ _) ?_ _; exact .inl rfl))
          clear hK K hHeld
          have hHeld := hNext
          clear hNext
          (try dsimp only at hHeld)
          try simp only [Act.put, List.getElem_toArray, List.getElem_cons_succ, List.getElem_cons_zero, List.setIfInBounds_toArray, List.set_cons_zero, List.set_cons_succ]
          refine wpAnyH_ready (rs := [9]) (by kernel_rfl) (by simp) ?_
          refine AllReadyH.cons rfl (fun K hK => ?_) AllReadyH.nil
          go_simp
          ((go_at_call 32; refine (copyNeed_own f.n _ f.cs wr.drew HN20.out (show Cyc wr.drew wr.drew.heap.size _ _ from HYK.out.cyc)).mono ?_; rintro e w1 ⟨v1, rfl, ho1, hB1⟩; have HB1 : Hid (Below wr.heap.size wr w1) := ⟨hB1.os, hB1.tape, hB1.output, hB1.size, hB1.block⟩; have HO1 : Hid (w1.ownsRow wr.heap.size 54 2 v1 f.cs.length (flat f.cs.length 2 (cyF f.cs))) := ho1; have hKeep : Hid (wr.grownBy w1 (some g)) := grown_of_below HB1.out; obtain ⟨A2, cp2, rfl⟩ := owns_form ho1; have hh1 := heap_below HH.out HB1.out; have s3 := (cellOf hh1 (k * 7 + 3)).trans HC3.out; have s4 := (cellOf hh1 (k * 7 + 3 + 1)).trans HC4.out; have s5 := (cellOf hh1 (k * 7 + 3 + 2)).trans HC5.out; have s6 := (cellOf hh1 (k * 7 + 3 + 3)).trans HC6.out; have t3 := unfrozenOf hh1 (k * 7 + 3); have t4 := unfrozenOf hh1 (k * 7 + 3 + 1); have t5 := unfrozenOf hh1 (k * 7 + 3 + 2); have t6 := unfrozenOf hh1 (k * 7 + 3 + 3); have HH1 := hide hh1; clear hh1 ho1 hB1))
          (try dsimp only)
          refine hK.out _ _ ?_ (fun hNext => ?_)
          · try dsimp only
            (first | exact only_refl _ _ | assumption | exact only_drew (only_refl _ _) | exact hKeep.out | exact only_drew (by assumption) | (refine only_trans hKeep.out ?_; refine only_setCell (only_setCell (only_setCell (only_setCell (only_refl _ _) ?_ _) ?_ _) ?_ _) ?_ _ <;> exact .inl rfl) | (refine only_trans hKeep.out ?_; refine only_setCell (only_refl _ _) ?_ _; exact .inl rfl))
          clear hK K hHeld
          have hHeld := hNext
          clear hNext
          (try dsimp only at hHeld)
          try simp only [Act.put, List.getElem_toArray, List.getElem_cons_succ, List.getElem_cons_zero, List.setIfInBounds_toArray, List.set_cons_zero, List.set_cons_succ]
          refine wpAnyH_take (i := 10) (v := ?v1_10) rfl (by kernel_rfl) (by kernel_rfl) (by kernel_rfl) (fun _ _ _ h => h) (Or.inl ⟨by rfl, ?y1_10⟩) (by assumption) ?r1_10
          case' y1_10 => (intro w hSw; (try dsimp only at hSw); have hcS := gcell hSw; clear hSw; go_simp; try with_reducible rfl)
          try simp only [Act.put, List.getElem_toArray, List.getElem_cons_succ, List.getElem_cons_zero, List.setIfInBounds_toArray, List.set_cons_zero, List.set_cons_succ]
          refine wpAnyH_take (i := 11) (v := ?v1_11) rfl (by kernel_rfl) (by kernel_rfl) (by kernel_rfl) (fun _ _ _ h => h) (Or.inl ⟨by rfl, ?y1_11⟩) (by assumption) ?r1_11
          case' y1_11 => (intro w hSw; (try dsimp only at hSw); have hcS := gcell hSw; clear hSw; go_simp; try with_reducible rfl)
          try simp only [Act.put, List.getElem_toArray, List.getElem_cons_succ, List.getElem_cons_zero, List.setIfInBounds_toArray, List.set_cons_zero, List.set_cons_succ]
          refine wpAnyH_ready (rs := [12]) (by kernel_rfl) (by simp) ?_
          refine AllReadyH.cons rfl (fun K hK => ?_) AllReadyH.nil
          go_simp
          refine hK.out _ _ ?_ (fun hNext => ?_)
          · try dsimp only
            (first | exact only_refl _ _ | assumption | exact only_drew (only_refl _ _) | exact hKeep.out | exact only_drew (by assumption) | (refine only_trans hKeep.out ?_; refine only_setCell (only_setCell (only_setCell (only_setCell (only_refl _ _) ?_ _) ?_ _) ?_ _) ?_ _ <;> exact .inl rfl) | (refine only_trans hKeep.out ?_; refine only_setCell (only_refl _ _) ?_ _; exact .inl rfl))
          clear hK K hHeld
          have hHeld := hNext
          clear hNext
          (try dsimp only at hHeld)
          try simp only [Act.put, List.getElem_toArray, List.getElem_cons_succ, List.getElem_cons_zero, List.setIfInBounds_toArray, List.set_cons_zero, List.set_cons_succ]
          refine wpAnyH_done (by kernel_rfl) ?_ _
          generalize hwz : World.setCell _ _ _ = wz at hHeld ⊢
          have hhz := setCellOf (i := k * 7 + 3 + 3) (setCellOf (i := k * 7 + 3 + 2) (setCellOf (i := k * 7 + 3 + 1) (setCellOf (i := k * 7 + 3) HH1.out (.slice A2 f.cs.length cp2)) (.int .i64 f.n.len)) (.int .i64 f.n.drop)) (.int .i64 f.n.amb)
          rw [hwz] at hhz
          have hg1z : w1.grownBy wz (some g) := by
            rw [← hwz]
            refine only_setCell (only_setCell (only_setCell (only_setCell (only_refl _ _) ?_ _) ?_ _) ?_ _) ?_ _
            all_goals exact .inl rfl
          have hbz : Below w0.heap.size w0 wz := by
            rw [← hwz]
            refine Below.setCell (Below.setCell (Below.setCell (Below.setCell (Below.to hX2.out.below HB1.out (Nat.le_refl _)) ?_ _) ?_ _) ?_ _) ?_ _
            all_goals exact hg
          have hwzg : wr.grownBy wz (some g) := only_trans hKeep.out hg1z
          have hCX : CopyX w0 wz (w.heap.size + 1) pb (.slice Ag gs.length cpg) (.slice Af fs.length cpf) (.slice (some ⟨g, 0, none⟩) es.length cpe) gs fs es :=
            ⟨(hwzg.block pb hlpb (fun e => hne (by injection e))).trans HBX.out, owns_grown hX2.out.g hwzg HH.out (by decide), owns_grown hX2.out.f hwzg HH.out (by decide),
              FesX.step hlt hn hg hs HC.out HCV.out hwzg (by rw [HHF.out]; exact (CycX.owned HO1.out hlg (by have := hX2.out.below.size; have := box_lt HR.out; omega)).grown hg1z) HHF.out hhz, hbz⟩
          have HCX := hide hCX
          clear hCX hhz hg1z hbz hwzg hwz
          go_wp2_with fail
          go_roundw
          case rel => exact ⟨k + 1, by omega, by go_num, HCX.out⟩
          case measure => simp [intOf]; omega
      · have hl1 : w.heap.size + 1 < w0.heap.size := box_lt HR.out
        have hr := heap_below HR.out hX2.out.below
        have r0 := cellOf hr 0
        have r1 := cellOf hr 1
        have r2 := cellOf hr 2
        have q0 := unfrozenOf hr 0
        have q1 := unfrozenOf hr 1
        have q2 := unfrozenOf hr 2
        have HRR := hide hr
        clear hr
        have hne : ¬ pb = w.heap.size + 1 := by omega
        go_wp2_with fail
        generalize hwz : World.setCell _ _ _ = wz
        have hhz := setCellOf (i := 2) (setCellOf (i := 1) (setCellOf (i := 0) HRR.out (.slice Ag gs.length cpg)) (.slice Af fs.length cpf)) (.slice Ae es.length cpe)
        rw [hwz] at hhz
        have hgz : wr.grownBy wz (some (w.heap.size + 1)) := by
          rw [← hwz]
          refine only_setCell (only_setCell (only_setCell (only_refl _ _) ?_ _) ?_ _) ?_ _
          all_goals exact .inl rfl
        have hbz : Below w.heap.size w wz := by
          rw [← hwz]
          refine Below.setCell (Below.setCell (Below.setCell (Below.to HB0.out hX2.out.below (Nat.le_refl _)) ?_ _) ?_ _) ?_ _
          all_goals (show _ ≤ w.heap.size + 1; omega)
        have hW : Wir wz wz.heap.size (.slice Ag gs.length cpg) (.slice Af fs.length cpf) (.slice Ae es.length cpe) gs fs es :=
          wir_of (owns_grown hX2.out.g hgz HRR.out (by decide)) (owns_grown hX2.out.f hgz HRR.out (by decide)) (hX2.out.e.grownx hgz (by omega))
        have z0 := cellOf hhz 0
        have z1 := cellOf hhz 1
        have z2 := cellOf hhz 2
        clear r0 r1 r2 q0 q1 q2 j0 j1 j2 hgz hwz hhz
        have HW := hide hW
        have HBZ := hide hbz
        clear hW hbz
        refine bodyPost_ret (v := .agg #[.slice Ag gs.length cpg, .slice Af fs.length cpf, .slice Ae es.length cpe]) ?_ rfl ⟨_, _, _, rfl, HW.out, HBZ.out⟩
        rw [results_cell1 rfl]
        go_simp
end Go.Proofs.Ytejjjijaojkohaa
/- The arguments of WiresMilder opened; the milder cycle: no condition. -/
namespace Go.Proofs.Ytejjjijaojkohaa
open Go.Joins Go.ChangeShapes Go.WideShapes Go.ChangeAt Go.RowKit Go.Deep
set_option maxRecDepth 100000
set_option linter.unusedVariables false
set_option linter.unusedSimpArgs false
section
variable {H : Type} {enc : TypeId × Value → H} {W : World} {base b0 : Nat} {r : Reach} {spare : Nat → Bool} {held : Bool} {v : Value} {d : DataW H} {p : List MemPlace}
theorem cellsInts : Try.prog.cellsOf 49 = 1 := by kernel_rfl
theorem cellsMilder : Try.prog.cellsOf 51 = 5 := by kernel_rfl
/-- The slice value v holds the numbers ls, below block B. -/
def IntsL (w : World) (B : Nat) (v : Value) (ls : List Int) : Prop := Sl w B 1 v ls.length fun i _ => .int .i64 (ls.getD i 0)
theorem ints_cell {n : Nat} {c : Value} {y : DataW H × List MemPlace} (h : DataW.trod enc Try.prog W base spare held n 49 [c] = some y) :
    ∃ ls : List Int, IntsL W W.heap.size c ls ∧ ls.length ≤ maxLen ∧ ∀ i, i < ls.length → I64 (ls.getD i 0) :=
  open_rows (α := Int) 0 (fun x _ => .int .i64 x) I64 Try.underlying49 cellsInt (by omega) (by
    intro n cs' y hlen ht
    match cs', hlen with
    | [c0], _ =>
      obtain ⟨a, rfl, ha⟩ := int_cell ht
      exact ⟨a, fun j hj => by have : j = 0 := by omega
                               subst this; rfl, ha⟩) h
theorem need_cells2 {n : Nat} {c0 c1 c2 c3 : Value} {y : DataW H × List MemPlace} (h : DataW.trod enc Try.prog W base spare held n 48 [c0, c1, c2, c3] = some y) :
    ∃ (cs : List Cu) (m : Ne), Cyc W W.heap.size c0 cs ∧ cs.length ≤ maxLen ∧ (∀ x ∈ cs, I64 x.amps ∧ I64 x.secs) ∧ c1 = .int .i64 m.len ∧ c2 = .int .i64 m.drop ∧ c3 = .int .i64 m.amb ∧ I64 m.len ∧ I64 m.drop ∧ I64 m.amb := by
  obtain ⟨xs, n', _, _, _, hlen, hf⟩ := DataW.trod_struct Try.underlying48 h
  have g0 := hf 0 _ rfl
  have g1 := hf 1 _ rfl
  have g2 := hf 2 _ rfl
  have g3 := hf 3 _ rfl
  match xs, hlen with
  | [y0, y1, y2, y3], _ =>
    obtain ⟨a1, rfl, w1⟩ := int_cell (y := y1) (by simpa [cellsInt] using g1)
    obtain ⟨a2, rfl, w2⟩ := int_cell (y := y2) (by simpa [cellsInt] using g2)
    obtain ⟨a3, rfl, w3⟩ := int_cell (y := y3) (by simpa [cellsInt] using g3)
    obtain ⟨cs, hc, hl, hi⟩ := cycle_cell (y := y0) (by simpa [cellsCus] using g0)
    exact ⟨cs, ⟨a1, a2, a3⟩, hc, hl, hi, rfl, rfl, rfl, w1, w2, w3⟩
theorem open_milder (hv : Value.okWide Try.prog W r b0 51 v) (h : DataW.Trod enc Try.prog W base spare held 51 v d p) :
    ∃ (c lv : Value) (cs : List Cu) (n : Ne) (ls : List Int), v = .agg #[c, .int .i64 n.len, .int .i64 n.drop, .int .i64 n.amb, lv] ∧ Cyc W W.heap.size c cs ∧ cs.length ≤ maxLen ∧ (∀ x ∈ cs, I64 x.amps ∧ I64 x.secs) ∧ I64 n.len ∧ I64 n.drop ∧ I64 n.amb ∧
      IntsL W W.heap.size lv ls ∧ ls.length ≤ maxLen ∧ ∀ i, i < ls.length → I64 (ls.getD i 0) := by
  obtain ⟨cs, rfl, hsz⟩ := okWide_struct Try.underlying51 hv
  obtain ⟨l⟩ := cs
  match l, hsz.trans cellsMilder with
  | [c0, c1, c2, c3, c4], _ =>
    obtain ⟨fuel, hf⟩ := h
    obtain ⟨xs, n, _, _, _, hlen, hg⟩ := DataW.trod_struct Try.underlying51 hf
    have g0 := hg 0 _ rfl
    have g1 := hg 1 _ rfl
    match xs, hlen with
    | [y0, y1], _ =>
      obtain ⟨cs, m, h1, h2, h3, rfl, rfl, rfl, h4, h5, h6⟩ := need_cells2 (y := y0) (by simpa [Value.cells, cellsNeed] using g0)
      obtain ⟨ls, h7, h8, h9⟩ := ints_cell (y := y1) (by simpa [Value.cells, cellsInts] using g1)
      exact ⟨c0, c4, cs, m, ls, rfl, h1, h2, h3, h4, h5, h6, h7, h8, h9⟩
end
/-- One current less. -/
def newCu (c : Cu) (l : Int) : Cu := ⟨c.amps - min (max 0 l) (max 0 c.amps), c.secs⟩
def dsAt (cs : List Cu) (ls : List Int) (k i : Nat) : Cu := if i < k ∧ i < ls.length then newCu (cs.getD i Cu.z) (ls.getD i 0) else cs.getD i Cu.z
def dsL (cs : List Cu) (ls : List Int) (k : Nat) : List Cu := (List.range cs.length).map (dsAt cs ls k)
theorem dsL_len (cs : List Cu) (ls : List Int) (k : Nat) : (dsL cs ls k).length = cs.length := by simp [dsL]
theorem dsL_get {cs : List Cu} {ls : List Int} {k i : Nat} (hi : i < cs.length) : (dsL cs ls k).getD i Cu.z = dsAt cs ls k i := by simp [dsL, hi]
theorem dsL_mild {cs : List Cu} {ls : List Int} (hok : cycOk cs = true) (k : Nat) : MildL cs (dsL cs ls k) :=
  MildL.of (dsL_len cs ls k) fun i hi => by
    rw [dsL_get hi]
    have hm : cs.getD i Cu.z ∈ cs := by
      rw [List.getD_eq_getElem?_getD, List.getElem?_eq_getElem hi]
      exact List.getElem_mem _
    have h := cycOk_cu hok hm
    unfold dsAt
    split
    · refine ⟨rfl, ?_, ?_⟩
      · show 0 ≤ (cs.getD i Cu.z).amps - min (max 0 (ls.getD i 0)) (max 0 (cs.getD i Cu.z).amps)
        omega
      · show (cs.getD i Cu.z).amps - min (max 0 (ls.getD i 0)) (max 0 (cs.getD i Cu.z).amps) ≤ _
        omega
    · exact ⟨rfl, h.1, Int.le_refl _⟩
theorem newCu_i64 {c : Cu} {l : Int} (hc : I64 c.amps) : I64 (newCu c l).amps := by
  simp only [I64, newCu] at *
  omega
theorem dsAt_stays {cs : List Cu} {ls : List Int} {k : Nat} (i : Nat) (h : i ≠ k) : dsAt cs ls (k + 1) i = dsAt cs ls k i := by
  unfold dsAt
  by_cases h1 : i < ls.length
  · by_cases h2 : i < k
    · rw [if_pos ⟨by omega, h1⟩, if_pos ⟨h2, h1⟩]
    · rw [if_neg (by omega), if_neg (by omega)]
  · rw [if_neg (by omega), if_neg (by omega)]
theorem dsAt_now {cs : List Cu} {ls : List Int} {k : Nat} : dsAt cs ls k k = cs.getD k Cu.z := by unfold dsAt; rw [if_neg (by omega)]
theorem dsAt_new {cs : List Cu} {ls : List Int} {k : Nat} (h : k < ls.length) : dsAt cs ls (k + 1) k = newCu (cs.getD k Cu.z) (ls.getD k 0) := by unfold dsAt; rw [if_pos ⟨by omega, h⟩]

/-- The milder cycle's block while it is written. -/
def CurX (w0 w : World) (v : Value) (ds : List Cu) : Prop :=
  (ds.length = 0 ∧ ∃ A cap, v = .slice A 0 cap) ∨ ∃ (q cap : Nat) (C : Array Value), v = .slice (some ⟨q, 0, none⟩) ds.length cap ∧ ds.length ≤ cap ∧ w0.heap.size ≤ q ∧ w.heap[q]? = some (.cells C 54 (0, 0)) ∧ ds.length * 2 ≤ C.size ∧ ∀ i j, i < ds.length → j < 2 → C[i * 2 + j]? = some (cyF ds i j)
theorem CurX.of {w0 w : World} {v : Value} {cs : List Cu} (h : w.ownsRow w0.heap.size 54 2 v cs.length (flat cs.length 2 (cyF cs))) : CurX w0 w v cs := by
  obtain ⟨h1, ⟨hv, hn⟩ | ⟨q, cap, cur, hv, hb, hh, hn, _, hs, ht⟩⟩ := h
  · exact .inl ⟨hn, none, 0, hv⟩
  · refine .inr ⟨q, cap, cur, hv, hn, hb, hh, by rw [hs]; exact Nat.mul_le_mul_right _ hn, fun i j hi hj => ?_⟩
    have hx := flat_get (f := cyF cs) hi hj
    rw [← ht, List.getElem?_take, if_pos (idx_lt hi hj)] at hx
    simpa using hx
theorem CurX.cyc {w0 w : World} {v : Value} {ds : List Cu} (h : CurX w0 w v ds) : Cyc w w.heap.size v ds := by
  rcases h with ⟨h0, A, cap, rfl⟩ | ⟨q, cap, C, rfl, hn, _, hh, _, hc⟩
  · exact ⟨A, 0, 0, cap, by rw [h0], by omega, .inr h0, fun i j hi => by omega⟩
  · exact ⟨_, q, 0, cap, rfl, hn, .inl ⟨rfl, box_lt hh⟩, fun i j hi hj => by rw [cellOf hh, Nat.zero_add]; exact hc i j hi hj⟩
theorem alloc4 {w w0 : World} {o p q r : Obj} (h : (((w.alloc o).alloc p).alloc q).alloc r = w0) : w0.heap[w.heap.size]? = some o ∧ w0.heap[w.heap.size + 1]? = some p ∧ w0.heap[w.heap.size + 2]? = some q ∧ w0.heap[w.heap.size + 3]? = some r ∧ Below w.heap.size w w0 ∧ w0.heap.size = w.heap.size + 4 := by
  subst h
  refine ⟨?_, ?_, ?_, ?_, Below.allocT (Below.allocT (Below.allocT (Below.allocT (Below.refl _ _) (Nat.le_refl _) _) (Nat.le_refl _) _) (Nat.le_refl _) _) (Nat.le_refl _) _, by simp⟩
  · rw [heap_old _ _ _ (by simp <;> omega), heap_old _ _ _ (by simp <;> omega), heap_old _ _ _ (by simp), heap_new _ _ _ rfl]
  · rw [heap_old _ _ _ (by simp <;> omega), heap_old _ _ _ (by simp), heap_new _ _ _ (by simp)]
  · rw [heap_old _ _ _ (by simp), heap_new _ _ _ (by simp)]
  · rw [heap_new _ _ _ (by simp)]
end Go.Proofs.Ytejjjijaojkohaa
/- WiresMilder: what the four questions answer under the milder cycle: plain laws. -/
namespace Go.Proofs.Ytejjjijaojkohaa
open Go.RowKit
set_option linter.unusedVariables false
set_option linter.unusedSimpArgs false
variable {g : Ga} {f : Fu} {cs ds : List Cu}
theorem mild_rise (h : cycOk cs = true → MildL cs ds) (e : riseErr g cs 100 = 0) : riseErr g ds 100 = 0 ∧ riseVal g ds 100 ≤ riseVal g cs 100 := by
  unfold riseErr at e
  by_cases hg : g.ok = true
  · rw [if_pos hg] at e
    by_cases hc : cycOk cs = true
    · have hd := (h hc).ok hc
      have hf : fromB 100 0 10000 = true := by decide
      refine ⟨by unfold riseErr; rw [if_pos hg, if_pos hd, if_pos hf], ?_⟩
      unfold riseVal
      rw [if_pos (by rw [hg, hd, hf]; rfl), if_pos (by rw [hg, hc, hf]; rfl)]
      exact rise_mild (Ga.ok_iff.1 hg) (h hc) _
    · rw [if_neg hc] at e; simp at e
  · rw [if_neg hg] at e; simp at e
theorem mild_peak (h : cycOk cs = true → MildL cs ds) (e : peakErr g cs = 0) : peakErr g ds = 0 ∧ peakVal g ds ≤ peakVal g cs := by
  unfold peakErr at e
  by_cases hg : g.ok = true
  · rw [if_pos hg] at e
    by_cases hc : cycOk cs = true
    · have hd := (h hc).ok hc
      refine ⟨by unfold peakErr; rw [if_pos hg, if_pos hd], ?_⟩
      unfold peakVal
      rw [if_pos (by rw [hg, hd]; rfl), if_pos (by rw [hg, hc]; rfl)]
      exact peak_mild (Ga.ok_iff.1 hg) (h hc) hc (Ga.ok_iff.1 hg).limit0
    · rw [if_neg hc] at e; simp at e
  · rw [if_neg hg] at e; simp at e
theorem mild_holds (h : cycOk cs = true → MildL cs ds) (e : holdsErr f cs = 0) : holdsErr f ds = 0 ∧ (holdsVal f cs = true → holdsVal f ds = true) := by
  unfold holdsErr at e
  by_cases hf : f.ok = true
  · rw [if_pos hf] at e
    by_cases hc : cycOk cs = true
    · have hd := (h hc).ok hc
      refine ⟨by unfold holdsErr; rw [if_pos hf, if_pos hd], ?_⟩
      unfold holdsVal
      rw [hf, hc, hd, Bool.true_and, Bool.true_and]
      exact holds_mild (h hc) hc
    · rw [if_neg hc] at e; simp at e
  · rw [if_neg hf] at e; simp at e
/-- The milder need. -/
def mlN (n : Ne) : Ne := ⟨if 0 < n.len then n.len - 1 else n.len, if n.drop < 100000 then n.drop + 1 else n.drop, if 0 < n.amb then n.amb - 1 else n.amb⟩
theorem mild_fits {n : Ne} (h : cycOk cs = true → MildL cs ds) (e : fitErr g n cs = 0) : fitErr g (mlN n) ds = 0 ∧ (fitVal g n cs = true → fitVal g (mlN n) ds = true) := by
  unfold fitErr at e
  by_cases hg : g.ok = true
  · rw [if_pos hg] at e
    by_cases hn : needOk n cs = true
    · have hk := needOk_iff.1 hn
      have hc := hk.cyc
      have hd := (h hc).ok hc
      have h1 := hk.len0; have h2 := hk.len1; have h3 := hk.drop0; have h4 := hk.drop1; have h5 := hk.amb0; have h6 := hk.amb1
      have e1 : 0 ≤ (mlN n).len ∧ (mlN n).len ≤ n.len := by unfold mlN; simp only; split <;> omega
      have e2 : n.drop ≤ (mlN n).drop ∧ (mlN n).drop ≤ 100000 := by unfold mlN; simp only; split <;> omega
      have e3 : 0 ≤ (mlN n).amb ∧ (mlN n).amb ≤ n.amb := by unfold mlN; simp only; split <;> omega
      have hm : needOk (mlN n) ds = true := needOk_iff.2 ⟨hd, e1.1, by omega, by omega, e2.2, e3.1, by omega⟩
      refine ⟨by unfold fitErr; rw [if_pos hg, if_pos hm], ?_⟩
      unfold fitVal
      rw [hg, hn, hm, Bool.true_and, Bool.true_and]
      exact fits_mild (Ga.ok_iff.1 hg) (h hc) hk e1.1 e1.2 e2.1 e3.2
    · rw [if_neg hn] at e; simp at e
  · rw [if_neg hg] at e; simp at e
theorem curX_keep {w0 w w' : World} {v : Value} {ds : List Cu} (h : CurX w0 w v ds) (hk : ∀ (q : Nat) (C : Array Value), w.heap[q]? = some (.cells C 54 (0, 0)) → w'.heap[q]? = w.heap[q]?) : CurX w0 w' v ds := by
  rcases h with h | ⟨q, cap, C, h1, h2, h3, h4, h5, h6⟩
  · exact .inl h
  · exact .inr ⟨q, cap, C, h1, h2, h3, (hk q C h4).trans h4, h5, h6⟩
theorem below_of_grown {B b : Nat} {w w' : World} (h : w.grownBy w' (some b)) (hB : B ≤ w.heap.size) (hb : B ≤ b) : Below B w w' :=
  ⟨h.os, h.tape, h.output, h.size, fun k hk => h.block k (by omega) (fun e => by injection e; omega)⟩
end Go.Proofs.Ytejjjijaojkohaa

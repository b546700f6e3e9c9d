/- Group V of this claim's texts: walks and plain laws. -/
import Derived.Test.YtohofcmikfkilaaRows
import Derived.Test.YtohofcmikfkilaaTCF
import Derived.Test.YtohofcmikfkilaaTCH
import Derived.Test.YtohofcmikfkilaaTCJ
import Derived.Test.YtohofcmikfkilaaTCK
import Derived.Test.YtohofcmikfkilaaTCM
import Derived.Test.YtohofcmikfkilaaTCQ
import Derived.Test.YtohofcmikfkilaaTCS
import Derived.Test.YtohofcmikfkilaaTCT
import Derived.Deep.RegionHeld3
import Derived.Deep.DrawnRows
/- With one more rule no Count becomes greater, what is missing stays missing, what was implied is implied still: walk of the main way. -/
namespace Go.Proofs.Ytohofcmikfkilaa
open Go.Joins Go.ChangeShapes Go.WideShapes Go.ChangeAt Go.RowKit Go.Deep
set_option linter.unusedVariables false
set_option linter.unusedSimpArgs false
theorem forms_more {W : World} {B : Nat} {v RV : Value} {fvs : Nat → Value} {L : List (List Int)} {r : List Int} (ho : W.ownsRow B 35 1 v (L.length + 1) (flat L.length 1 (fun i _ => fvs i) ++ [RV])) (hfi : ∀ i, i < L.length → Ints W W.heap.size (fvs i) (L.getD i [])) (hr : Ints W W.heap.size RV r) : Forms W W.heap.size v (L ++ [r]) := by
  refine ⟨fun i => if i < L.length then fvs i else RV, ?_, fun i hi => ?_⟩
  · have h := Sl.of_owns (f := fun i _ => if i < L.length then fvs i else RV) ho (fun i j hi hj => by
      obtain rfl : j = 0 := by omega
      rw [Nat.mul_one, Nat.add_zero]
      by_cases hl : i < L.length
      · rw [List.getElem?_append_left (by rw [flat_length]; omega), if_pos hl]
        have := flat_get (n := L.length) (sz := 1) (f := fun i _ => fvs i) (i := i) (j := 0) hl (by omega)
        rwa [Nat.mul_one, Nat.add_zero] at this
      · obtain rfl : i = L.length := by omega
        rw [List.getElem?_append_right (by rw [flat_length]; omega), if_neg hl, flat_length, Nat.mul_one, Nat.sub_self]
        rfl)
    rw [show (L ++ [r]).length = L.length + 1 by simp]
    exact h
  · show Ints W W.heap.size (if i < L.length then fvs i else RV) _
    by_cases hl : i < L.length
    · rw [if_pos hl, getD_push, if_pos hl]; exact hfi i hl
    · have hi2 : i = L.length := by simp at hi; omega
      rw [if_neg hl, getD_push, if_neg hl, if_pos hi2]; exact hr
set_option maxRecDepth 100000 in
set_option maxHeartbeats 8000000 in
theorem optionsStricter_ok (m : Mo) (f r : List Int) (ov rv fv gv : Value) (w : World) (hs : SizedM m) (h : MoAt w w.heap.size ov rv m) (hif : Ints w w.heap.size fv f) (hfl : f.length ≤ maxLen) (hir : Ints w w.heap.size gv r) (hrl : r.length ≤ maxLen) (hlg : largeB m = false) (h11 : m.rules.length ≤ 11) (z1 : m.errF [f] = 0) (z2 : m.errF [r] = 0) :
    Calls Try.prog 13 #[.agg #[ov, rv], fv, gv] w fun e w' => e = .returned (.bool true) ∧ Below w.heap.size w w' := by
  obtain ⟨A, cap, hov⟩ := Sl.form h.o
  have H := hide h
  have HS := hide hs
  have HIF := hide hif
  have HIR := hide hir
  obtain ⟨fvs, ⟨Ar, bl, offl, capr, hrv, hncl, hAl, hcl⟩, hfi⟩ := h.r
  have hvr : Reads w w.heap.size 1 Ar m.rules.length (flat m.rules.length 1 (fun i _ => fvs i)) := Sl.reads ⟨Ar, bl, offl, capr, rfl, hncl, hAl, hcl⟩ (by omega)
  have hvo : ∀ u ∈ flat m.rules.length 1 (fun i _ => fvs i), u.oneCell' = true := fun u hu => by
    obtain ⟨k, hk, hku⟩ := List.getElem_of_mem hu
    obtain ⟨i, j, hi, _, _, hue⟩ := flat_inv (by omega) ((List.getElem?_eq_getElem hk).trans (congrArg some hku))
    obtain ⟨Ax, capx, hx⟩ := Sl.form (hfi i hi)
    rw [hue, hx]; rfl
  have HVR := hide hvr
  have HVO := hide hvo
  have HFI := hide hfi
  obtain ⟨Af, capf, hfv⟩ := Sl.form hif
  obtain ⟨Ag, capg, hgv⟩ := Sl.form hir
  subst hov hrv hfv hgv
  clear h hs hif hir hvr hvo hfi hncl hAl hcl
  obtain ⟨i1, hi1, jz0, jz1, jz2⟩ := info_parts infoForm
  have hst := strict_ok z1 z2 h11
  have hN12 : m.opts.length ≤ 12 := by have := (large_small hlg (Mo.okF z1).1).1; omega
  obtain ⟨g1, g2, g3, g4, g5, g6, g7, g8⟩ := hst
  have hsm : SizedM (moM m r) := ⟨HS.out.n, HS.out.s, by show (m.rules ++ [r]).length ≤ maxLen; rw [List.length_append]; simp only [List.length_cons, List.length_nil]; unfold maxLen; omega, fun x hx => by
    rcases List.mem_append.1 hx with q | q
    · exact HS.out.r.2 x q
    · simp at q
      subst q
      exact hrl⟩
  have HSM := hide hsm
  have HNU : Hid (∀ l, m.errF l = 0 → m.opts.length ≤ 12) := fun _ _ => hN12
  have HNUM : Hid (∀ l, (moM m r).errF l = 0 → (moM m r).opts.length ≤ 12) := fun _ _ => hN12
  have HN : Hid (m.err = 0 → m.opts.length ≤ 12) := fun _ => hN12
  have HNM : Hid ((moM m r).err = 0 → (moM m r).opts.length ≤ 12) := fun _ => hN12
  obtain ⟨ca, hca⟩ : ∃ x, cntE m f = x := ⟨_, rfl⟩
  obtain ⟨cb, hcb⟩ : ∃ x, cntE (moM m r) f = x := ⟨_, rfl⟩
  obtain ⟨X, hX⟩ : ∃ x, misL m = x := ⟨_, rfl⟩
  obtain ⟨Y, hY⟩ : ∃ x, misL (moM m r) = x := ⟨_, rfl⟩
  obtain ⟨is, his⟩ : ∃ x, impB m f r = x := ⟨_, rfl⟩
  rw [hca, hcb] at g5 g7
  rw [his] at g7
  rw [hX, hY] at g8
  have HCA := hide (And.intro hca z1)
  have HCB := hide (And.intro hcb g1)
  have HMX := hide (And.intro hX (Mo.okF z1).1)
  have HMY := hide (And.intro hY g4)
  obtain ⟨x1, hx1⟩ : ∃ x, impX m f r = x := ⟨_, rfl⟩
  obtain ⟨x2, hx2⟩ : ∃ x, impX (moM m r) f r = x := ⟨_, rfl⟩
  have HI1 := hide (And.intro hx1 (And.intro his g2))
  have HI2 := hide (And.intro hx2 (And.intro g6 g3))
  have HXY := hide g8
  have HEQ := hide g7
  have hyl : Y.length ≤ 576 := by
    rw [← hY, mis_ok g4]
    exact Nat.le_trans (List.length_filter_le _ _) (pairs_len hN12)
  have HYL := hide hyl
  have q1 : decide ((ca : Int) < (cb : Int)) = false := by simp; omega
  have q2 : decide (ca < cb) = false := decide_eq_false (by omega)
  have q3 : ¬ ca < cb := by omega
  have HLG := hide hlg
  have HE1 := hide z1
  have HE2 := hide z2
  have H11 := hide h11
  have q0 : decide ((11 : Int) < (m.rules.length : Int)) = false := by simp; omega
  clear g1 g2 g3 g4 g5 g6 g7 g8 hsm hca hcb hX hY his hx1 hx2 hyl z1 z2 hlg
  go_enter Try.func13, Try.ntmps13
  go_upto_region 1 with (fail)
  generalize hw0 : World.alloc _ _ = w0
  obtain ⟨hb0, hB0, hs0⟩ := alloc1 hw0
  clear hw0
  have HX0 := hide hb0
  have HB0 := hide hB0
  have c0 := cellOf hb0 0
  have c1 := cellOf hb0 1
  clear hb0 hB0 hs0
  go_upto_region 3 with (first | (go_at_call 27; refine (rCheckFormula_any m r _ _ _ _ HS.out hrl (H.out.up HB2.out) (HIR.out.up HB2.out)).mono ?_; rw [HE2.out]; rintro e w3 ⟨rfl, hB3⟩; have HB3 : Hid (Below w.heap.size w w3) := Below.to HB2.out hB3 (Nat.le_refl _); have HX3 := hide (box_to HX2.out hB3); (try clear c0 c1); have c0 := cellOf HX3.out 0; have c1 := cellOf HX3.out 1; clear hB3) | (go_at_call 27; refine (rCheckFormula_any m f _ _ _ _ HS.out hfl (H.out.up HB1.out) (HIF.out.up HB1.out)).mono ?_; rw [HE1.out]; rintro e w2 ⟨rfl, hB2⟩; have HB2 : Hid (Below w.heap.size w w2) := Below.to HB1.out hB2 (Nat.le_refl _); have HX2 := hide (box_to HX1.out hB2); (try clear c0 c1); have c0 := cellOf HX2.out 0; have c1 := cellOf HX2.out 1; clear hB2) | (go_at_call 19; refine (Large_any m _ _ _ (H.out.up HB0.out)).mono ?_; rw [HLG.out]; rintro e w1 ⟨rfl, hB1⟩; have HB1 : Hid (Below w.heap.size w w1) := Below.to HB0.out hB1 (Nat.le_refl _); have HX1 := hide (box_to HX0.out hB1); (try clear c0 c1); have c0 := cellOf HX1.out 0; have c1 := cellOf HX1.out 1; clear hB1))
  have hbx3 : w.heap.size < w3.heap.size := box_lt HX3.out
  go_cut [7] from 41 to 49 (fun p wc => ∃ (pb : Nat) (A7 : Option Addr) (cap7 : Nat), p = .pointer (some ⟨pb, 0, none⟩) ∧ w3.heap.size ≤ pb ∧ Hid (Below w3.heap.size w3 wc) ∧ Hid (wc.heap[pb]? = some (.cells #[.slice A m.opts.length cap, .slice A7 (m.rules.length + 1) cap7] 25 (0, 0))) ∧ Hid (wc.ownsRow w3.heap.size 35 1 (.slice A7 (m.rules.length + 1) cap7) (m.rules.length + 1) ((flat m.rules.length 1 (fun i _ => fvs i)) ++ [.slice Ag r.length capg])))
  case first =>
    refine wp_region_held_drew (S := (fun w' => Below w3.heap.size w3 w')) (by kernel_rfl) (Below.drew (Below.refl _ _)) (fun hHeld => ?_)
    have hbel0 : Below w3.heap.size w3 w3.drew := Below.drew (Below.refl _ _)
    refine wpAnyH_take (i := 0) (v := ?vt1) rfl (by kernel_rfl) (by kernel_rfl) (by kernel_rfl) (fun _ _ _ h => h) (Or.inl ⟨by rfl, ?yt1⟩) (by assumption) ?rt1
    case' yt1 => (intro w hSw; clear hSw; go_simp; try with_reducible rfl)
    try simp only [Act.put, List.getElem_toArray, List.getElem_cons_succ, List.getElem_cons_zero, List.setIfInBounds_toArray, List.set_cons_zero, List.set_cons_succ]
    refine wpAnyH_take (i := 1) (v := ?vt2) rfl (by kernel_rfl) (by kernel_rfl) (by kernel_rfl) (fun _ _ _ h => h) (Or.inl ⟨by rfl, ?yt2⟩) (by assumption) ?rt2
    case' yt2 => (intro w hSw; (try dsimp only at hSw); obtain ⟨hcS, hfS⟩ := bcell hSw; clear hSw; go_simp; try with_reducible rfl)
    try simp only [Act.put, List.getElem_toArray, List.getElem_cons_succ, List.getElem_cons_zero, List.setIfInBounds_toArray, List.set_cons_zero, List.set_cons_succ]
    refine wpAnyH_take (i := 2) (v := ?vt3) rfl (by kernel_rfl) (by kernel_rfl) (by kernel_rfl) (fun _ _ _ h => h) (Or.inl ⟨by rfl, ?yt3⟩) (by assumption) ?rt3
    case' yt3 => (intro w hSw; clear hSw; go_simp; try with_reducible rfl)
    try simp only [Act.put, List.getElem_toArray, List.getElem_cons_succ, List.getElem_cons_zero, List.setIfInBounds_toArray, List.set_cons_zero, List.set_cons_succ]
    refine wpAnyH_take (i := 3) (v := ?vt4) rfl (by kernel_rfl) (by kernel_rfl) (by kernel_rfl) (fun _ _ _ h => h) (Or.inl ⟨by rfl, ?yt4⟩) (by assumption) ?rt4
    case' yt4 => (intro w hSw; (try dsimp only at hSw); obtain ⟨hcS, hfS⟩ := bcell hSw; clear hSw; go_simp; try with_reducible rfl)
    try simp only [Act.put, List.getElem_toArray, List.getElem_cons_succ, List.getElem_cons_zero, List.setIfInBounds_toArray, List.set_cons_zero, List.set_cons_succ]
    refine wpAnyH_take (i := 5) (v := ?vt5) rfl (by kernel_rfl) (by kernel_rfl) (by kernel_rfl) (fun _ _ _ h => h) (Or.inl ⟨by rfl, ?yt5⟩) (by assumption) ?rt5
    case' yt5 => (intro w hSw; clear hSw; go_simp; try with_reducible rfl)
    try simp only [Act.put, List.getElem_toArray, List.getElem_cons_succ, List.getElem_cons_zero, List.setIfInBounds_toArray, List.set_cons_zero, List.set_cons_succ]
    refine wpAnyH_ready (rs := [4, 6, 9]) (by kernel_rfl) (by simp) ?_
    refine (AllReadyH.cons rfl (fun K hK => ?o6) (AllReadyH.cons rfl (fun K hK => ?o7) (AllReadyH.cons rfl (fun K hK => ?o8) AllReadyH.nil)))
    case' o6 =>
      (refine step_append_any _ (by rfl) _ (.tmp 44) _ (by rfl) w3.heap.size 35 i1 _ 1 24 Try.underlying23 hi1 jz0 jz1 jz2 (by rfl) (by decide) (.slice none 0 0) 0 [] (by rfl) (World.ownsRow_nil _ _ _ _) w.heap.size Ar m.rules.length capr (flat m.rules.length 1 (fun i _ => fvs i)) (by rfl) (HVR.out.below (Below.to HB3.out hbel0 (Nat.le_refl _))) HVO.out (by unfold maxLen; omega) (by omega) hbel0.size ?_; intro v4 w4 hown4 hg4 _; rw [Nat.zero_add, List.nil_append] at hown4; obtain ⟨A4, cap4, hv4⟩ := owns_form hown4; subst hv4; have hB4 : Below (World.heap w3.drew).size w3.drew w4 := Below.grown (Below.refl _ _) hg4 (Nat.le_refl _) (fun j hj => absurd (show (none : Option Nat) = some j from hj) (by simp)); have hbel4 : Below w3.heap.size w3 w4 := Below.to hbel0 hB4 (Nat.le_refl _); have HO4 := hide hown4)
      (try dsimp only)
      refine hK.out _ _ ?_ (fun hNext => ?_)
      · try dsimp only
        exact hbel4
      clear hK K hHeld
      have hHeld := hNext
      clear hNext
      (try dsimp only at hHeld)
      try simp only [Act.put, List.getElem_toArray, List.getElem_cons_succ, List.getElem_cons_zero, List.setIfInBounds_toArray, List.set_cons_zero, List.set_cons_succ]
      refine wpAnyH_ready (rs := [6, 9]) (by kernel_rfl) (by simp) ?_
      refine (AllReadyH.cons rfl (fun K hK => ?o9) (AllReadyH.cons rfl (fun K hK => ?o10) AllReadyH.nil))
      case' o9 =>
        go_simp
        refine hK.out _ _ ?_ (fun hNext => ?_)
        · try dsimp only
          exact (Below.allocT hbel4 (Nat.le_refl _) _)
        clear hK K hHeld
        have hHeld := hNext
        clear hNext
        (try dsimp only at hHeld)
        try simp only [Act.put, List.getElem_toArray, List.getElem_cons_succ, List.getElem_cons_zero, List.setIfInBounds_toArray, List.set_cons_zero, List.set_cons_succ]
        have hbel12 : Below w3.heap.size w3 (World.alloc w4 (.cells #[.slice Ag r.length capg] 35)) := Below.allocT hbel4 (Nat.le_refl _) _
        have q13 := hide (owns_below HO4.out (w' := (World.alloc w4 (.cells #[.slice Ag r.length capg] 35))) ((Below.refl _ _).alloc (Nat.le_refl _) _))
        have q14 : Hid (((World.alloc w4 (.cells #[.slice Ag r.length capg] 35))).heap[w4.heap.size]? = some (.cells #[.slice Ag r.length capg] 35 (0, 0))) := heap_new _ _ _ (by simp)
        refine wpAnyH_ready (rs := [7, 9]) (by kernel_rfl) (by simp) ?_
        refine (AllReadyH.cons rfl (fun K hK => ?o15) (AllReadyH.cons rfl (fun K hK => ?o16) AllReadyH.nil))
        case' o15 =>
          (refine step_append_any _ (by rfl) (.tmp 45) (.tmp 47) _ (by rfl) w3.heap.size 35 i1 _ 1 24 Try.underlying23 hi1 jz0 jz1 jz2 (by rfl) (by decide) (.slice A4 m.rules.length cap4) m.rules.length (flat m.rules.length 1 (fun i _ => fvs i)) (by rfl) q13.out (World.heap (World.alloc w4 (.cells #[.slice Ag r.length capg] 35))).size (some ⟨w4.heap.size, 0, none⟩) 1 1 [.slice Ag r.length capg] (by rfl) ⟨rfl, fun _ => ⟨_, rfl, box_lt q14.out, World.news_of_block q14.out⟩⟩ (by simp [Value.oneCell']) (by unfold maxLen; omega) (by omega) hbel12.size ?_; intro v7 w7 hown7 hg7 _; obtain ⟨A7, cap7, hv7⟩ := owns_form hown7; subst hv7; have hbel7 : Below w3.heap.size w3 w7 := Below.grown hbel12 hg7 hbel12.size (fun j hj => (q13.out.lt j hj).1); have HO7 := hide hown7)
          (try dsimp only)
          refine hK.out _ _ ?_ (fun hNext => ?_)
          · try dsimp only
            exact hbel7
          clear hK K hHeld
          have hHeld := hNext
          clear hNext
          (try dsimp only at hHeld)
          try simp only [Act.put, List.getElem_toArray, List.getElem_cons_succ, List.getElem_cons_zero, List.setIfInBounds_toArray, List.set_cons_zero, List.set_cons_succ]
          refine wpAnyH_take (i := 8) (v := ?vt17) rfl (by kernel_rfl) (by kernel_rfl) (by kernel_rfl) (fun _ _ _ h => h) (Or.inl ⟨by rfl, ?yt17⟩) (by assumption) ?rt17
          case' yt17 => (intro w hSw; clear hSw; go_simp; try with_reducible rfl)
          try simp only [Act.put, List.getElem_toArray, List.getElem_cons_succ, List.getElem_cons_zero, List.setIfInBounds_toArray, List.set_cons_zero, List.set_cons_succ]
          refine wpAnyH_ready (rs := [9]) (by kernel_rfl) (by simp) ?_
          refine (AllReadyH.cons rfl (fun K hK => ?_) AllReadyH.nil)
          go_simp
          refine hK.out _ _ ?_ (fun hNext => ?_)
          · try dsimp only
            exact (Below.allocT hbel7 (Nat.le_refl _) _)
          clear hK K hHeld
          have hHeld := hNext
          clear hNext
          (try dsimp only at hHeld)
          try simp only [Act.put, List.getElem_toArray, List.getElem_cons_succ, List.getElem_cons_zero, List.setIfInBounds_toArray, List.set_cons_zero, List.set_cons_succ]
          have hbel20 : Below w3.heap.size w3 (World.alloc w7 (.cells #[.slice none 0 0, .slice none 0 0] 25)) := Below.allocT hbel7 (Nat.le_refl _) _
          have q21 := hide (owns_below HO7.out (w' := (World.alloc w7 (.cells #[.slice none 0 0, .slice none 0 0] 25))) ((Below.refl _ _).alloc (Nat.le_refl _) _))
          have q22 : Hid (((World.alloc w7 (.cells #[.slice none 0 0, .slice none 0 0] 25))).heap[w7.heap.size]? = some (.cells #[.slice none 0 0, .slice none 0 0] 25 (0, 0))) := heap_new _ _ _ (by simp)
          have hp23 : w3.heap.size ≤ w7.heap.size := by (have := hbel7.size; (try simp at this); omega)
          refine wpAnyH_ready (rs := [10]) (by kernel_rfl) (by simp) ?_
          refine (AllReadyH.cons rfl (fun K hK => ?_) AllReadyH.nil)
          have s0 := cellOf q22.out 0
          have s1 := cellOf q22.out 1
          have s2 := unfrozenOf q22.out 0
          have s3 := unfrozenOf q22.out 1
          have s4 := box_lt q22.out
          go_simp
          have hbel25 : Below w3.heap.size w3 (World.alloc w7 (.cells #[.slice A m.opts.length cap, .slice A7 (m.rules.length + 1) cap7] 25)) := Below.allocT hbel7 (Nat.le_refl _) _
          refine hK.out _ _ ?_ (fun hNext => ?_)
          · try dsimp only
            exact hbel25
          clear hK K hHeld
          have hHeld := hNext
          clear hNext
          (try dsimp only at hHeld)
          try simp only [Act.put, List.getElem_toArray, List.getElem_cons_succ, List.getElem_cons_zero, List.setIfInBounds_toArray, List.set_cons_zero, List.set_cons_succ]
          have q26 : Hid (((World.alloc w7 (.cells #[.slice A m.opts.length cap, .slice A7 (m.rules.length + 1) cap7] 25))).heap[w7.heap.size]? = some (.cells #[.slice A m.opts.length cap, .slice A7 (m.rules.length + 1) cap7] 25 (0, 0))) := heap_new _ _ _ (by simp)
          have q27 := hide (owns_below HO7.out (w' := (World.alloc w7 (.cells #[.slice A m.opts.length cap, .slice A7 (m.rules.length + 1) cap7] 25))) ((Below.refl _ _).alloc (Nat.le_refl _) _))
          refine wpAnyH_done (by kernel_rfl) ?_ _
          go_wp2_with fail
          go_meet
          case rel => exact ⟨w7.heap.size, A7, cap7, rfl, hp23, hbel25, q26.out, q27.out⟩
        case' o16 =>
          go_simp
          refine hK.out _ _ ?_ (fun hNext => ?_)
          · try dsimp only
            exact (Below.allocT hbel12 (Nat.le_refl _) _)
          clear hK K hHeld
          have hHeld := hNext
          clear hNext
          (try dsimp only at hHeld)
          try simp only [Act.put, List.getElem_toArray, List.getElem_cons_succ, List.getElem_cons_zero, List.setIfInBounds_toArray, List.set_cons_zero, List.set_cons_succ]
          have hbel29 : Below w3.heap.size w3 (World.alloc (World.alloc w4 (.cells #[.slice Ag r.length capg] 35)) (.cells #[.slice none 0 0, .slice none 0 0] 25)) := Below.allocT hbel12 (Nat.le_refl _) _
          have q30 := hide (owns_below q13.out (w' := (World.alloc (World.alloc w4 (.cells #[.slice Ag r.length capg] 35)) (.cells #[.slice none 0 0, .slice none 0 0] 25))) ((Below.refl _ _).alloc (Nat.le_refl _) _))
          have q31 := hide (box_to q14.out (w1 := (World.alloc (World.alloc w4 (.cells #[.slice Ag r.length capg] 35)) (.cells #[.slice none 0 0, .slice none 0 0] 25))) ((Below.refl _ _).alloc (Nat.le_refl _) _))
          have q32 : Hid (((World.alloc (World.alloc w4 (.cells #[.slice Ag r.length capg] 35)) (.cells #[.slice none 0 0, .slice none 0 0] 25))).heap[w4.heap.size + 1]? = some (.cells #[.slice none 0 0, .slice none 0 0] 25 (0, 0))) := heap_new _ _ _ (by simp)
          have hp33 : w3.heap.size ≤ w4.heap.size + 1 := by (have := hbel12.size; (try simp at this); omega)
          refine wpAnyH_ready (rs := [7]) (by kernel_rfl) (by simp) ?_
          refine (AllReadyH.cons rfl (fun K hK => ?_) AllReadyH.nil)
          (refine step_append_any _ (by rfl) (.tmp 45) (.tmp 47) _ (by rfl) w3.heap.size 35 i1 _ 1 24 Try.underlying23 hi1 jz0 jz1 jz2 (by rfl) (by decide) (.slice A4 m.rules.length cap4) m.rules.length (flat m.rules.length 1 (fun i _ => fvs i)) (by rfl) q30.out (World.heap (World.alloc (World.alloc w4 (.cells #[.slice Ag r.length capg] 35)) (.cells #[.slice none 0 0, .slice none 0 0] 25))).size (some ⟨w4.heap.size, 0, none⟩) 1 1 [.slice Ag r.length capg] (by rfl) ⟨rfl, fun _ => ⟨_, rfl, box_lt q31.out, World.news_of_block q31.out⟩⟩ (by simp [Value.oneCell']) (by unfold maxLen; omega) (by omega) hbel29.size ?_; intro v7 w7 hown7 hg7 _; obtain ⟨A7, cap7, hv7⟩ := owns_form hown7; subst hv7; have hbel7 : Below w3.heap.size w3 w7 := Below.grown hbel29 hg7 hbel29.size (fun j hj => (q30.out.lt j hj).1); have HO7 := hide hown7)
          (try dsimp only)
          refine hK.out _ _ ?_ (fun hNext => ?_)
          · try dsimp only
            exact hbel7
          clear hK K hHeld
          have hHeld := hNext
          clear hNext
          (try dsimp only at hHeld)
          try simp only [Act.put, List.getElem_toArray, List.getElem_cons_succ, List.getElem_cons_zero, List.setIfInBounds_toArray, List.set_cons_zero, List.set_cons_succ]
          have q35 := hide ((hg7.block _ (box_lt q32.out) (fun e => owns_not q30.out q32.out (by decide) e.symm)).trans q32.out)
          refine wpAnyH_take (i := 8) (v := ?vt36) rfl (by kernel_rfl) (by kernel_rfl) (by kernel_rfl) (fun _ _ _ h => h) (Or.inl ⟨by rfl, ?yt36⟩) (by assumption) ?rt36
          case' yt36 => (intro w hSw; clear hSw; go_simp; try with_reducible rfl)
          try simp only [Act.put, List.getElem_toArray, List.getElem_cons_succ, List.getElem_cons_zero, List.setIfInBounds_toArray, List.set_cons_zero, List.set_cons_succ]
          refine wpAnyH_ready (rs := [10]) (by kernel_rfl) (by simp) ?_
          refine (AllReadyH.cons rfl (fun K hK => ?_) AllReadyH.nil)
          have s0 := cellOf q35.out 0
          have s1 := cellOf q35.out 1
          have s2 := unfrozenOf q35.out 0
          have s3 := unfrozenOf q35.out 1
          have s4 := box_lt q35.out
          go_simp
          have hbel38 : Below w3.heap.size w3 (World.setCell (World.setCell w7 ⟨w4.heap.size + 1, 0, none⟩ (.slice A m.opts.length cap)) ⟨w4.heap.size + 1, 1, none⟩ (.slice A7 (m.rules.length + 1) cap7)) := Below.setCell (Below.setCell hbel7 hp33 _) hp33 _
          refine hK.out _ _ ?_ (fun hNext => ?_)
          · try dsimp only
            exact hbel38
          clear hK K hHeld
          have hHeld := hNext
          clear hNext
          (try dsimp only at hHeld)
          try simp only [Act.put, List.getElem_toArray, List.getElem_cons_succ, List.getElem_cons_zero, List.setIfInBounds_toArray, List.set_cons_zero, List.set_cons_succ]
          have q39 : Hid (((World.setCell (World.setCell w7 ⟨w4.heap.size + 1, 0, none⟩ (.slice A m.opts.length cap)) ⟨w4.heap.size + 1, 1, none⟩ (.slice A7 (m.rules.length + 1) cap7))).heap[w4.heap.size + 1]? = some (.cells #[.slice A m.opts.length cap, .slice A7 (m.rules.length + 1) cap7] 25 (0, 0))) := setCellOf (i := 1) (setCellOf (i := 0) q35.out _) _
          have q40 : Hid (((World.setCell (World.setCell w7 ⟨w4.heap.size + 1, 0, none⟩ (.slice A m.opts.length cap)) ⟨w4.heap.size + 1, 1, none⟩ (.slice A7 (m.rules.length + 1) cap7))).ownsRow w3.heap.size 35 1 (.slice A7 (m.rules.length + 1) cap7) (m.rules.length + 1) ((flat m.rules.length 1 (fun i _ => fvs i)) ++ [.slice Ag r.length capg])) := ownsRow_same HO7.out (fun b hb => (Below.heap_setCell _ _ _ _ (fun e => owns_not HO7.out q35.out (by decide) (by have e2 : b = w4.heap.size + 1 := e; rw [← e2]; exact hb))).trans (Below.heap_setCell _ _ _ _ (fun e => owns_not HO7.out q35.out (by decide) (by have e2 : b = w4.heap.size + 1 := e; rw [← e2]; exact hb))))
          refine wpAnyH_done (by kernel_rfl) ?_ _
          go_wp2_with fail
          go_meet
          case rel => exact ⟨w4.heap.size + 1, A7, cap7, rfl, hp33, hbel38, q39.out, q40.out⟩
      case' o10 =>
        go_simp
        refine hK.out _ _ ?_ (fun hNext => ?_)
        · try dsimp only
          exact (Below.allocT hbel4 (Nat.le_refl _) _)
        clear hK K hHeld
        have hHeld := hNext
        clear hNext
        (try dsimp only at hHeld)
        try simp only [Act.put, List.getElem_toArray, List.getElem_cons_succ, List.getElem_cons_zero, List.setIfInBounds_toArray, List.set_cons_zero, List.set_cons_succ]
        have hbel42 : Below w3.heap.size w3 (World.alloc w4 (.cells #[.slice none 0 0, .slice none 0 0] 25)) := Below.allocT hbel4 (Nat.le_refl _) _
        have q43 := hide (owns_below HO4.out (w' := (World.alloc w4 (.cells #[.slice none 0 0, .slice none 0 0] 25))) ((Below.refl _ _).alloc (Nat.le_refl _) _))
        have q44 : Hid (((World.alloc w4 (.cells #[.slice none 0 0, .slice none 0 0] 25))).heap[w4.heap.size]? = some (.cells #[.slice none 0 0, .slice none 0 0] 25 (0, 0))) := heap_new _ _ _ (by simp)
        have hp45 : w3.heap.size ≤ w4.heap.size := by (have := hbel4.size; (try simp at this); omega)
        refine wpAnyH_ready (rs := [6]) (by kernel_rfl) (by simp) ?_
        refine (AllReadyH.cons rfl (fun K hK => ?_) AllReadyH.nil)
        go_simp
        refine hK.out _ _ ?_ (fun hNext => ?_)
        · try dsimp only
          exact (Below.allocT hbel42 (Nat.le_refl _) _)
        clear hK K hHeld
        have hHeld := hNext
        clear hNext
        (try dsimp only at hHeld)
        try simp only [Act.put, List.getElem_toArray, List.getElem_cons_succ, List.getElem_cons_zero, List.setIfInBounds_toArray, List.set_cons_zero, List.set_cons_succ]
        have hbel48 : Below w3.heap.size w3 (World.alloc (World.alloc w4 (.cells #[.slice none 0 0, .slice none 0 0] 25)) (.cells #[.slice Ag r.length capg] 35)) := Below.allocT hbel42 (Nat.le_refl _) _
        have q49 := hide (owns_below q43.out (w' := (World.alloc (World.alloc w4 (.cells #[.slice none 0 0, .slice none 0 0] 25)) (.cells #[.slice Ag r.length capg] 35))) ((Below.refl _ _).alloc (Nat.le_refl _) _))
        have q50 := hide (box_to q44.out (w1 := (World.alloc (World.alloc w4 (.cells #[.slice none 0 0, .slice none 0 0] 25)) (.cells #[.slice Ag r.length capg] 35))) ((Below.refl _ _).alloc (Nat.le_refl _) _))
        have q51 : Hid (((World.alloc (World.alloc w4 (.cells #[.slice none 0 0, .slice none 0 0] 25)) (.cells #[.slice Ag r.length capg] 35))).heap[w4.heap.size + 1]? = some (.cells #[.slice Ag r.length capg] 35 (0, 0))) := heap_new _ _ _ (by simp)
        refine wpAnyH_ready (rs := [7]) (by kernel_rfl) (by simp) ?_
        refine (AllReadyH.cons rfl (fun K hK => ?_) AllReadyH.nil)
        (refine step_append_any _ (by rfl) (.tmp 45) (.tmp 47) _ (by rfl) w3.heap.size 35 i1 _ 1 24 Try.underlying23 hi1 jz0 jz1 jz2 (by rfl) (by decide) (.slice A4 m.rules.length cap4) m.rules.length (flat m.rules.length 1 (fun i _ => fvs i)) (by rfl) q49.out (World.heap (World.alloc (World.alloc w4 (.cells #[.slice none 0 0, .slice none 0 0] 25)) (.cells #[.slice Ag r.length capg] 35))).size (some ⟨w4.heap.size + 1, 0, none⟩) 1 1 [.slice Ag r.length capg] (by rfl) ⟨rfl, fun _ => ⟨_, rfl, box_lt q51.out, World.news_of_block q51.out⟩⟩ (by simp [Value.oneCell']) (by unfold maxLen; omega) (by omega) hbel48.size ?_; intro v7 w7 hown7 hg7 _; obtain ⟨A7, cap7, hv7⟩ := owns_form hown7; subst hv7; have hbel7 : Below w3.heap.size w3 w7 := Below.grown hbel48 hg7 hbel48.size (fun j hj => (q49.out.lt j hj).1); have HO7 := hide hown7)
        (try dsimp only)
        refine hK.out _ _ ?_ (fun hNext => ?_)
        · try dsimp only
          exact hbel7
        clear hK K hHeld
        have hHeld := hNext
        clear hNext
        (try dsimp only at hHeld)
        try simp only [Act.put, List.getElem_toArray, List.getElem_cons_succ, List.getElem_cons_zero, List.setIfInBounds_toArray, List.set_cons_zero, List.set_cons_succ]
        have q53 := hide ((hg7.block _ (box_lt q50.out) (fun e => owns_not q49.out q50.out (by decide) e.symm)).trans q50.out)
        refine wpAnyH_take (i := 8) (v := ?vt54) rfl (by kernel_rfl) (by kernel_rfl) (by kernel_rfl) (fun _ _ _ h => h) (Or.inl ⟨by rfl, ?yt54⟩) (by assumption) ?rt54
        case' yt54 => (intro w hSw; clear hSw; go_simp; try with_reducible rfl)
        try simp only [Act.put, List.getElem_toArray, List.getElem_cons_succ, List.getElem_cons_zero, List.setIfInBounds_toArray, List.set_cons_zero, List.set_cons_succ]
        refine wpAnyH_ready (rs := [10]) (by kernel_rfl) (by simp) ?_
        refine (AllReadyH.cons rfl (fun K hK => ?_) AllReadyH.nil)
        have s0 := cellOf q53.out 0
        have s1 := cellOf q53.out 1
        have s2 := unfrozenOf q53.out 0
        have s3 := unfrozenOf q53.out 1
        have s4 := box_lt q53.out
        go_simp
        have hbel56 : Below w3.heap.size w3 (World.setCell (World.setCell w7 ⟨w4.heap.size, 0, none⟩ (.slice A m.opts.length cap)) ⟨w4.heap.size, 1, none⟩ (.slice A7 (m.rules.length + 1) cap7)) := Below.setCell (Below.setCell hbel7 hp45 _) hp45 _
        refine hK.out _ _ ?_ (fun hNext => ?_)
        · try dsimp only
          exact hbel56
        clear hK K hHeld
        have hHeld := hNext
        clear hNext
        (try dsimp only at hHeld)
        try simp only [Act.put, List.getElem_toArray, List.getElem_cons_succ, List.getElem_cons_zero, List.setIfInBounds_toArray, List.set_cons_zero, List.set_cons_succ]
        have q57 : Hid (((World.setCell (World.setCell w7 ⟨w4.heap.size, 0, none⟩ (.slice A m.opts.length cap)) ⟨w4.heap.size, 1, none⟩ (.slice A7 (m.rules.length + 1) cap7))).heap[w4.heap.size]? = some (.cells #[.slice A m.opts.length cap, .slice A7 (m.rules.length + 1) cap7] 25 (0, 0))) := setCellOf (i := 1) (setCellOf (i := 0) q53.out _) _
        have q58 : Hid (((World.setCell (World.setCell w7 ⟨w4.heap.size, 0, none⟩ (.slice A m.opts.length cap)) ⟨w4.heap.size, 1, none⟩ (.slice A7 (m.rules.length + 1) cap7))).ownsRow w3.heap.size 35 1 (.slice A7 (m.rules.length + 1) cap7) (m.rules.length + 1) ((flat m.rules.length 1 (fun i _ => fvs i)) ++ [.slice Ag r.length capg])) := ownsRow_same HO7.out (fun b hb => (Below.heap_setCell _ _ _ _ (fun e => owns_not HO7.out q53.out (by decide) (by have e2 : b = w4.heap.size := e; rw [← e2]; exact hb))).trans (Below.heap_setCell _ _ _ _ (fun e => owns_not HO7.out q53.out (by decide) (by have e2 : b = w4.heap.size := e; rw [← e2]; exact hb))))
        refine wpAnyH_done (by kernel_rfl) ?_ _
        go_wp2_with fail
        go_meet
        case rel => exact ⟨w4.heap.size, A7, cap7, rfl, hp45, hbel56, q57.out, q58.out⟩
    case' o7 =>
      go_simp
      refine hK.out _ _ ?_ (fun hNext => ?_)
      · try dsimp only
        exact (Below.allocT hbel0 (Nat.le_refl _) _)
      clear hK K hHeld
      have hHeld := hNext
      clear hNext
      (try dsimp only at hHeld)
      try simp only [Act.put, List.getElem_toArray, List.getElem_cons_succ, List.getElem_cons_zero, List.setIfInBounds_toArray, List.set_cons_zero, List.set_cons_succ]
      have hbel60 : Below w3.heap.size w3 (World.alloc w3.drew (.cells #[.slice Ag r.length capg] 35)) := Below.allocT hbel0 (Nat.le_refl _) _
      have q61 : Hid (((World.alloc w3.drew (.cells #[.slice Ag r.length capg] 35))).heap[w3.heap.size]? = some (.cells #[.slice Ag r.length capg] 35 (0, 0))) := heap_new _ _ _ (by simp)
      refine wpAnyH_ready (rs := [4, 9]) (by kernel_rfl) (by simp) ?_
      refine (AllReadyH.cons rfl (fun K hK => ?o62) (AllReadyH.cons rfl (fun K hK => ?o63) AllReadyH.nil))
      case' o62 =>
        (refine step_append_any _ (by rfl) _ (.tmp 44) _ (by rfl) w3.heap.size 35 i1 _ 1 24 Try.underlying23 hi1 jz0 jz1 jz2 (by rfl) (by decide) (.slice none 0 0) 0 [] (by rfl) (World.ownsRow_nil _ _ _ _) w.heap.size Ar m.rules.length capr (flat m.rules.length 1 (fun i _ => fvs i)) (by rfl) (HVR.out.below (Below.to HB3.out hbel60 (Nat.le_refl _))) HVO.out (by unfold maxLen; omega) (by omega) hbel60.size ?_; intro v4 w4 hown4 hg4 _; rw [Nat.zero_add, List.nil_append] at hown4; obtain ⟨A4, cap4, hv4⟩ := owns_form hown4; subst hv4; have hB4 : Below (World.heap (World.alloc w3.drew (.cells #[.slice Ag r.length capg] 35))).size (World.alloc w3.drew (.cells #[.slice Ag r.length capg] 35)) w4 := Below.grown (Below.refl _ _) hg4 (Nat.le_refl _) (fun j hj => absurd (show (none : Option Nat) = some j from hj) (by simp)); have hbel4 : Below w3.heap.size w3 w4 := Below.to hbel60 hB4 (Nat.le_refl _); have HO4 := hide hown4)
        (try dsimp only)
        refine hK.out _ _ ?_ (fun hNext => ?_)
        · try dsimp only
          exact hbel4
        clear hK K hHeld
        have hHeld := hNext
        clear hNext
        (try dsimp only at hHeld)
        try simp only [Act.put, List.getElem_toArray, List.getElem_cons_succ, List.getElem_cons_zero, List.setIfInBounds_toArray, List.set_cons_zero, List.set_cons_succ]
        have q64 := hide (box_to q61.out hB4)
        refine wpAnyH_ready (rs := [7, 9]) (by kernel_rfl) (by simp) ?_
        refine (AllReadyH.cons rfl (fun K hK => ?o65) (AllReadyH.cons rfl (fun K hK => ?o66) AllReadyH.nil))
        case' o65 =>
          (refine step_append_any _ (by rfl) (.tmp 45) (.tmp 47) _ (by rfl) w3.heap.size 35 i1 _ 1 24 Try.underlying23 hi1 jz0 jz1 jz2 (by rfl) (by decide) (.slice A4 m.rules.length cap4) m.rules.length (flat m.rules.length 1 (fun i _ => fvs i)) (by rfl) HO4.out (World.heap w4).size (some ⟨w3.heap.size, 0, none⟩) 1 1 [.slice Ag r.length capg] (by rfl) ⟨rfl, fun _ => ⟨_, rfl, box_lt q64.out, World.news_of_block q64.out⟩⟩ (by simp [Value.oneCell']) (by unfold maxLen; omega) (by omega) hbel4.size ?_; intro v7 w7 hown7 hg7 _; obtain ⟨A7, cap7, hv7⟩ := owns_form hown7; subst hv7; have hbel7 : Below w3.heap.size w3 w7 := Below.grown hbel4 hg7 hbel4.size (fun j hj => (HO4.out.lt j hj).1); have HO7 := hide hown7)
          (try dsimp only)
          refine hK.out _ _ ?_ (fun hNext => ?_)
          · try dsimp only
            exact hbel7
          clear hK K hHeld
          have hHeld := hNext
          clear hNext
          (try dsimp only at hHeld)
          try simp only [Act.put, List.getElem_toArray, List.getElem_cons_succ, List.getElem_cons_zero, List.setIfInBounds_toArray, List.set_cons_zero, List.set_cons_succ]
          refine wpAnyH_take (i := 8) (v := ?vt67) rfl (by kernel_rfl) (by kernel_rfl) (by kernel_rfl) (fun _ _ _ h => h) (Or.inl ⟨by rfl, ?yt67⟩) (by assumption) ?rt67
          case' yt67 => (intro w hSw; clear hSw; go_simp; try with_reducible rfl)
          try simp only [Act.put, List.getElem_toArray, List.getElem_cons_succ, List.getElem_cons_zero, List.setIfInBounds_toArray, List.set_cons_zero, List.set_cons_succ]
          refine wpAnyH_ready (rs := [9]) (by kernel_rfl) (by simp) ?_
          refine (AllReadyH.cons rfl (fun K hK => ?_) AllReadyH.nil)
          go_simp
          refine hK.out _ _ ?_ (fun hNext => ?_)
          · try dsimp only
            exact (Below.allocT hbel7 (Nat.le_refl _) _)
          clear hK K hHeld
          have hHeld := hNext
          clear hNext
          (try dsimp only at hHeld)
          try simp only [Act.put, List.getElem_toArray, List.getElem_cons_succ, List.getElem_cons_zero, List.setIfInBounds_toArray, List.set_cons_zero, List.set_cons_succ]
          have hbel70 : Below w3.heap.size w3 (World.alloc w7 (.cells #[.slice none 0 0, .slice none 0 0] 25)) := Below.allocT hbel7 (Nat.le_refl _) _
          have q71 := hide (owns_below HO7.out (w' := (World.alloc w7 (.cells #[.slice none 0 0, .slice none 0 0] 25))) ((Below.refl _ _).alloc (Nat.le_refl _) _))
          have q72 : Hid (((World.alloc w7 (.cells #[.slice none 0 0, .slice none 0 0] 25))).heap[w7.heap.size]? = some (.cells #[.slice none 0 0, .slice none 0 0] 25 (0, 0))) := heap_new _ _ _ (by simp)
          have hp73 : w3.heap.size ≤ w7.heap.size := by (have := hbel7.size; (try simp at this); omega)
          refine wpAnyH_ready (rs := [10]) (by kernel_rfl) (by simp) ?_
          refine (AllReadyH.cons rfl (fun K hK => ?_) AllReadyH.nil)
          have s0 := cellOf q72.out 0
          have s1 := cellOf q72.out 1
          have s2 := unfrozenOf q72.out 0
          have s3 := unfrozenOf q72.out 1
          have s4 := box_lt q72.out
          go_simp
          have hbel75 : Below w3.heap.size w3 (World.alloc w7 (.cells #[.slice A m.opts.length cap, .slice A7 (m.rules.length + 1) cap7] 25)) := Below.allocT hbel7 (Nat.le_refl _) _
          refine hK.out _ _ ?_ (fun hNext => ?_)
          · try dsimp only
            exact hbel75
          clear hK K hHeld
          have hHeld := hNext
          clear hNext
          (try dsimp only at hHeld)
          try simp only [Act.put, List.getElem_toArray, List.getElem_cons_succ, List.getElem_cons_zero, List.setIfInBounds_toArray, List.set_cons_zero, List.set_cons_succ]
          have q76 : Hid (((World.alloc w7 (.cells #[.slice A m.opts.length cap, .slice A7 (m.rules.length + 1) cap7] 25))).heap[w7.heap.size]? = some (.cells #[.slice A m.opts.length cap, .slice A7 (m.rules.length + 1) cap7] 25 (0, 0))) := heap_new _ _ _ (by simp)
          have q77 := hide (owns_below HO7.out (w' := (World.alloc w7 (.cells #[.slice A m.opts.length cap, .slice A7 (m.rules.length + 1) cap7] 25))) ((Below.refl _ _).alloc (Nat.le_refl _) _))
          refine wpAnyH_done (by kernel_rfl) ?_ _
          go_wp2_with fail
          go_meet
          case rel => exact ⟨w7.heap.size, A7, cap7, rfl, hp73, hbel75, q76.out, q77.out⟩
        case' o66 =>
          go_simp
          refine hK.out _ _ ?_ (fun hNext => ?_)
          · try dsimp only
            exact (Below.allocT hbel4 (Nat.le_refl _) _)
          clear hK K hHeld
          have hHeld := hNext
          clear hNext
          (try dsimp only at hHeld)
          try simp only [Act.put, List.getElem_toArray, List.getElem_cons_succ, List.getElem_cons_zero, List.setIfInBounds_toArray, List.set_cons_zero, List.set_cons_succ]
          have hbel79 : Below w3.heap.size w3 (World.alloc w4 (.cells #[.slice none 0 0, .slice none 0 0] 25)) := Below.allocT hbel4 (Nat.le_refl _) _
          have q80 := hide (owns_below HO4.out (w' := (World.alloc w4 (.cells #[.slice none 0 0, .slice none 0 0] 25))) ((Below.refl _ _).alloc (Nat.le_refl _) _))
          have q81 := hide (box_to q64.out (w1 := (World.alloc w4 (.cells #[.slice none 0 0, .slice none 0 0] 25))) ((Below.refl _ _).alloc (Nat.le_refl _) _))
          have q82 : Hid (((World.alloc w4 (.cells #[.slice none 0 0, .slice none 0 0] 25))).heap[w4.heap.size]? = some (.cells #[.slice none 0 0, .slice none 0 0] 25 (0, 0))) := heap_new _ _ _ (by simp)
          have hp83 : w3.heap.size ≤ w4.heap.size := by (have := hbel4.size; (try simp at this); omega)
          refine wpAnyH_ready (rs := [7]) (by kernel_rfl) (by simp) ?_
          refine (AllReadyH.cons rfl (fun K hK => ?_) AllReadyH.nil)
          (refine step_append_any _ (by rfl) (.tmp 45) (.tmp 47) _ (by rfl) w3.heap.size 35 i1 _ 1 24 Try.underlying23 hi1 jz0 jz1 jz2 (by rfl) (by decide) (.slice A4 m.rules.length cap4) m.rules.length (flat m.rules.length 1 (fun i _ => fvs i)) (by rfl) q80.out (World.heap (World.alloc w4 (.cells #[.slice none 0 0, .slice none 0 0] 25))).size (some ⟨w3.heap.size, 0, none⟩) 1 1 [.slice Ag r.length capg] (by rfl) ⟨rfl, fun _ => ⟨_, rfl, box_lt q81.out, World.news_of_block q81.out⟩⟩ (by simp [Value.oneCell']) (by unfold maxLen; omega) (by omega) hbel79.size ?_; intro v7 w7 hown7 hg7 _; obtain ⟨A7, cap7, hv7⟩ := owns_form hown7; subst hv7; have hbel7 : Below w3.heap.size w3 w7 := Below.grown hbel79 hg7 hbel79.size (fun j hj => (q80.out.lt j hj).1); have HO7 := hide hown7)
          (try dsimp only)
          refine hK.out _ _ ?_ (fun hNext => ?_)
          · try dsimp only
            exact hbel7
          clear hK K hHeld
          have hHeld := hNext
          clear hNext
          (try dsimp only at hHeld)
          try simp only [Act.put, List.getElem_toArray, List.getElem_cons_succ, List.getElem_cons_zero, List.setIfInBounds_toArray, List.set_cons_zero, List.set_cons_succ]
          have q85 := hide ((hg7.block _ (box_lt q82.out) (fun e => owns_not q80.out q82.out (by decide) e.symm)).trans q82.out)
          refine wpAnyH_take (i := 8) (v := ?vt86) rfl (by kernel_rfl) (by kernel_rfl) (by kernel_rfl) (fun _ _ _ h => h) (Or.inl ⟨by rfl, ?yt86⟩) (by assumption) ?rt86
          case' yt86 => (intro w hSw; clear hSw; go_simp; try with_reducible rfl)
          try simp only [Act.put, List.getElem_toArray, List.getElem_cons_succ, List.getElem_cons_zero, List.setIfInBounds_toArray, List.set_cons_zero, List.set_cons_succ]
          refine wpAnyH_ready (rs := [10]) (by kernel_rfl) (by simp) ?_
          refine (AllReadyH.cons rfl (fun K hK => ?_) AllReadyH.nil)
          have s0 := cellOf q85.out 0
          have s1 := cellOf q85.out 1
          have s2 := unfrozenOf q85.out 0
          have s3 := unfrozenOf q85.out 1
          have s4 := box_lt q85.out
          go_simp
          have hbel88 : Below w3.heap.size w3 (World.setCell (World.setCell w7 ⟨w4.heap.size, 0, none⟩ (.slice A m.opts.length cap)) ⟨w4.heap.size, 1, none⟩ (.slice A7 (m.rules.length + 1) cap7)) := Below.setCell (Below.setCell hbel7 hp83 _) hp83 _
          refine hK.out _ _ ?_ (fun hNext => ?_)
          · try dsimp only
            exact hbel88
          clear hK K hHeld
          have hHeld := hNext
          clear hNext
          (try dsimp only at hHeld)
          try simp only [Act.put, List.getElem_toArray, List.getElem_cons_succ, List.getElem_cons_zero, List.setIfInBounds_toArray, List.set_cons_zero, List.set_cons_succ]
          have q89 : Hid (((World.setCell (World.setCell w7 ⟨w4.heap.size, 0, none⟩ (.slice A m.opts.length cap)) ⟨w4.heap.size, 1, none⟩ (.slice A7 (m.rules.length + 1) cap7))).heap[w4.heap.size]? = some (.cells #[.slice A m.opts.length cap, .slice A7 (m.rules.length + 1) cap7] 25 (0, 0))) := setCellOf (i := 1) (setCellOf (i := 0) q85.out _) _
          have q90 : Hid (((World.setCell (World.setCell w7 ⟨w4.heap.size, 0, none⟩ (.slice A m.opts.length cap)) ⟨w4.heap.size, 1, none⟩ (.slice A7 (m.rules.length + 1) cap7))).ownsRow w3.heap.size 35 1 (.slice A7 (m.rules.length + 1) cap7) (m.rules.length + 1) ((flat m.rules.length 1 (fun i _ => fvs i)) ++ [.slice Ag r.length capg])) := ownsRow_same HO7.out (fun b hb => (Below.heap_setCell _ _ _ _ (fun e => owns_not HO7.out q85.out (by decide) (by have e2 : b = w4.heap.size := e; rw [← e2]; exact hb))).trans (Below.heap_setCell _ _ _ _ (fun e => owns_not HO7.out q85.out (by decide) (by have e2 : b = w4.heap.size := e; rw [← e2]; exact hb))))
          refine wpAnyH_done (by kernel_rfl) ?_ _
          go_wp2_with fail
          go_meet
          case rel => exact ⟨w4.heap.size, A7, cap7, rfl, hp83, hbel88, q89.out, q90.out⟩
      case' o63 =>
        go_simp
        refine hK.out _ _ ?_ (fun hNext => ?_)
        · try dsimp only
          exact (Below.allocT hbel60 (Nat.le_refl _) _)
        clear hK K hHeld
        have hHeld := hNext
        clear hNext
        (try dsimp only at hHeld)
        try simp only [Act.put, List.getElem_toArray, List.getElem_cons_succ, List.getElem_cons_zero, List.setIfInBounds_toArray, List.set_cons_zero, List.set_cons_succ]
        have hbel92 : Below w3.heap.size w3 (World.alloc (World.alloc w3.drew (.cells #[.slice Ag r.length capg] 35)) (.cells #[.slice none 0 0, .slice none 0 0] 25)) := Below.allocT hbel60 (Nat.le_refl _) _
        have q93 := hide (box_to q61.out (w1 := (World.alloc (World.alloc w3.drew (.cells #[.slice Ag r.length capg] 35)) (.cells #[.slice none 0 0, .slice none 0 0] 25))) ((Below.refl _ _).alloc (Nat.le_refl _) _))
        have q94 : Hid (((World.alloc (World.alloc w3.drew (.cells #[.slice Ag r.length capg] 35)) (.cells #[.slice none 0 0, .slice none 0 0] 25))).heap[w3.heap.size + 1]? = some (.cells #[.slice none 0 0, .slice none 0 0] 25 (0, 0))) := heap_new _ _ _ (by simp)
        have hp95 : w3.heap.size ≤ w3.heap.size + 1 := by (have := hbel60.size; (try simp at this); omega)
        refine wpAnyH_ready (rs := [4]) (by kernel_rfl) (by simp) ?_
        refine (AllReadyH.cons rfl (fun K hK => ?_) AllReadyH.nil)
        (refine step_append_any _ (by rfl) _ (.tmp 44) _ (by rfl) w3.heap.size 35 i1 _ 1 24 Try.underlying23 hi1 jz0 jz1 jz2 (by rfl) (by decide) (.slice none 0 0) 0 [] (by rfl) (World.ownsRow_nil _ _ _ _) w.heap.size Ar m.rules.length capr (flat m.rules.length 1 (fun i _ => fvs i)) (by rfl) (HVR.out.below (Below.to HB3.out hbel92 (Nat.le_refl _))) HVO.out (by unfold maxLen; omega) (by omega) hbel92.size ?_; intro v4 w4 hown4 hg4 _; rw [Nat.zero_add, List.nil_append] at hown4; obtain ⟨A4, cap4, hv4⟩ := owns_form hown4; subst hv4; have hB4 : Below (World.heap (World.alloc (World.alloc w3.drew (.cells #[.slice Ag r.length capg] 35)) (.cells #[.slice none 0 0, .slice none 0 0] 25))).size (World.alloc (World.alloc w3.drew (.cells #[.slice Ag r.length capg] 35)) (.cells #[.slice none 0 0, .slice none 0 0] 25)) w4 := Below.grown (Below.refl _ _) hg4 (Nat.le_refl _) (fun j hj => absurd (show (none : Option Nat) = some j from hj) (by simp)); have hbel4 : Below w3.heap.size w3 w4 := Below.to hbel92 hB4 (Nat.le_refl _); have HO4 := hide hown4)
        (try dsimp only)
        refine hK.out _ _ ?_ (fun hNext => ?_)
        · try dsimp only
          exact hbel4
        clear hK K hHeld
        have hHeld := hNext
        clear hNext
        (try dsimp only at hHeld)
        try simp only [Act.put, List.getElem_toArray, List.getElem_cons_succ, List.getElem_cons_zero, List.setIfInBounds_toArray, List.set_cons_zero, List.set_cons_succ]
        have q97 := hide (box_to q93.out hB4)
        have q98 := hide (box_to q94.out hB4)
        refine wpAnyH_ready (rs := [7]) (by kernel_rfl) (by simp) ?_
        refine (AllReadyH.cons rfl (fun K hK => ?_) AllReadyH.nil)
        (refine step_append_any _ (by rfl) (.tmp 45) (.tmp 47) _ (by rfl) w3.heap.size 35 i1 _ 1 24 Try.underlying23 hi1 jz0 jz1 jz2 (by rfl) (by decide) (.slice A4 m.rules.length cap4) m.rules.length (flat m.rules.length 1 (fun i _ => fvs i)) (by rfl) HO4.out (World.heap w4).size (some ⟨w3.heap.size, 0, none⟩) 1 1 [.slice Ag r.length capg] (by rfl) ⟨rfl, fun _ => ⟨_, rfl, box_lt q97.out, World.news_of_block q97.out⟩⟩ (by simp [Value.oneCell']) (by unfold maxLen; omega) (by omega) hbel4.size ?_; intro v7 w7 hown7 hg7 _; obtain ⟨A7, cap7, hv7⟩ := owns_form hown7; subst hv7; have hbel7 : Below w3.heap.size w3 w7 := Below.grown hbel4 hg7 hbel4.size (fun j hj => (HO4.out.lt j hj).1); have HO7 := hide hown7)
        (try dsimp only)
        refine hK.out _ _ ?_ (fun hNext => ?_)
        · try dsimp only
          exact hbel7
        clear hK K hHeld
        have hHeld := hNext
        clear hNext
        (try dsimp only at hHeld)
        try simp only [Act.put, List.getElem_toArray, List.getElem_cons_succ, List.getElem_cons_zero, List.setIfInBounds_toArray, List.set_cons_zero, List.set_cons_succ]
        have q100 := hide ((hg7.block _ (box_lt q98.out) (fun e => owns_not HO4.out q98.out (by decide) e.symm)).trans q98.out)
        refine wpAnyH_take (i := 8) (v := ?vt101) rfl (by kernel_rfl) (by kernel_rfl) (by kernel_rfl) (fun _ _ _ h => h) (Or.inl ⟨by rfl, ?yt101⟩) (by assumption) ?rt101
        case' yt101 => (intro w hSw; clear hSw; go_simp; try with_reducible rfl)
        try simp only [Act.put, List.getElem_toArray, List.getElem_cons_succ, List.getElem_cons_zero, List.setIfInBounds_toArray, List.set_cons_zero, List.set_cons_succ]
        refine wpAnyH_ready (rs := [10]) (by kernel_rfl) (by simp) ?_
        refine (AllReadyH.cons rfl (fun K hK => ?_) AllReadyH.nil)
        have s0 := cellOf q100.out 0
        have s1 := cellOf q100.out 1
        have s2 := unfrozenOf q100.out 0
        have s3 := unfrozenOf q100.out 1
        have s4 := box_lt q100.out
        go_simp
        have hbel103 : Below w3.heap.size w3 (World.setCell (World.setCell w7 ⟨w3.heap.size + 1, 0, none⟩ (.slice A m.opts.length cap)) ⟨w3.heap.size + 1, 1, none⟩ (.slice A7 (m.rules.length + 1) cap7)) := Below.setCell (Below.setCell hbel7 hp95 _) hp95 _
        refine hK.out _ _ ?_ (fun hNext => ?_)
        · try dsimp only
          exact hbel103
        clear hK K hHeld
        have hHeld := hNext
        clear hNext
        (try dsimp only at hHeld)
        try simp only [Act.put, List.getElem_toArray, List.getElem_cons_succ, List.getElem_cons_zero, List.setIfInBounds_toArray, List.set_cons_zero, List.set_cons_succ]
        have q104 : Hid (((World.setCell (World.setCell w7 ⟨w3.heap.size + 1, 0, none⟩ (.slice A m.opts.length cap)) ⟨w3.heap.size + 1, 1, none⟩ (.slice A7 (m.rules.length + 1) cap7))).heap[w3.heap.size + 1]? = some (.cells #[.slice A m.opts.length cap, .slice A7 (m.rules.length + 1) cap7] 25 (0, 0))) := setCellOf (i := 1) (setCellOf (i := 0) q100.out _) _
        have q105 : Hid (((World.setCell (World.setCell w7 ⟨w3.heap.size + 1, 0, none⟩ (.slice A m.opts.length cap)) ⟨w3.heap.size + 1, 1, none⟩ (.slice A7 (m.rules.length + 1) cap7))).ownsRow w3.heap.size 35 1 (.slice A7 (m.rules.length + 1) cap7) (m.rules.length + 1) ((flat m.rules.length 1 (fun i _ => fvs i)) ++ [.slice Ag r.length capg])) := ownsRow_same HO7.out (fun b hb => (Below.heap_setCell _ _ _ _ (fun e => owns_not HO7.out q100.out (by decide) (by have e2 : b = w3.heap.size + 1 := e; rw [← e2]; exact hb))).trans (Below.heap_setCell _ _ _ _ (fun e => owns_not HO7.out q100.out (by decide) (by have e2 : b = w3.heap.size + 1 := e; rw [← e2]; exact hb))))
        refine wpAnyH_done (by kernel_rfl) ?_ _
        go_wp2_with fail
        go_meet
        case rel => exact ⟨w3.heap.size + 1, A7, cap7, rfl, hp95, hbel103, q104.out, q105.out⟩
    case' o8 =>
      go_simp
      refine hK.out _ _ ?_ (fun hNext => ?_)
      · try dsimp only
        exact (Below.allocT hbel0 (Nat.le_refl _) _)
      clear hK K hHeld
      have hHeld := hNext
      clear hNext
      (try dsimp only at hHeld)
      try simp only [Act.put, List.getElem_toArray, List.getElem_cons_succ, List.getElem_cons_zero, List.setIfInBounds_toArray, List.set_cons_zero, List.set_cons_succ]
      have hbel107 : Below w3.heap.size w3 (World.alloc w3.drew (.cells #[.slice none 0 0, .slice none 0 0] 25)) := Below.allocT hbel0 (Nat.le_refl _) _
      have q108 : Hid (((World.alloc w3.drew (.cells #[.slice none 0 0, .slice none 0 0] 25))).heap[w3.heap.size]? = some (.cells #[.slice none 0 0, .slice none 0 0] 25 (0, 0))) := heap_new _ _ _ (by simp)
      have hp109 : w3.heap.size ≤ w3.heap.size := by (have := hbel0.size; (try simp at this); omega)
      refine wpAnyH_ready (rs := [4, 6]) (by kernel_rfl) (by simp) ?_
      refine (AllReadyH.cons rfl (fun K hK => ?o110) (AllReadyH.cons rfl (fun K hK => ?o111) AllReadyH.nil))
      case' o110 =>
        (refine step_append_any _ (by rfl) _ (.tmp 44) _ (by rfl) w3.heap.size 35 i1 _ 1 24 Try.underlying23 hi1 jz0 jz1 jz2 (by rfl) (by decide) (.slice none 0 0) 0 [] (by rfl) (World.ownsRow_nil _ _ _ _) w.heap.size Ar m.rules.length capr (flat m.rules.length 1 (fun i _ => fvs i)) (by rfl) (HVR.out.below (Below.to HB3.out hbel107 (Nat.le_refl _))) HVO.out (by unfold maxLen; omega) (by omega) hbel107.size ?_; intro v4 w4 hown4 hg4 _; rw [Nat.zero_add, List.nil_append] at hown4; obtain ⟨A4, cap4, hv4⟩ := owns_form hown4; subst hv4; have hB4 : Below (World.heap (World.alloc w3.drew (.cells #[.slice none 0 0, .slice none 0 0] 25))).size (World.alloc w3.drew (.cells #[.slice none 0 0, .slice none 0 0] 25)) w4 := Below.grown (Below.refl _ _) hg4 (Nat.le_refl _) (fun j hj => absurd (show (none : Option Nat) = some j from hj) (by simp)); have hbel4 : Below w3.heap.size w3 w4 := Below.to hbel107 hB4 (Nat.le_refl _); have HO4 := hide hown4)
        (try dsimp only)
        refine hK.out _ _ ?_ (fun hNext => ?_)
        · try dsimp only
          exact hbel4
        clear hK K hHeld
        have hHeld := hNext
        clear hNext
        (try dsimp only at hHeld)
        try simp only [Act.put, List.getElem_toArray, List.getElem_cons_succ, List.getElem_cons_zero, List.setIfInBounds_toArray, List.set_cons_zero, List.set_cons_succ]
        have q112 := hide (box_to q108.out hB4)
        refine wpAnyH_ready (rs := [6]) (by kernel_rfl) (by simp) ?_
        refine (AllReadyH.cons rfl (fun K hK => ?_) AllReadyH.nil)
        go_simp
        refine hK.out _ _ ?_ (fun hNext => ?_)
        · try dsimp only
          exact (Below.allocT hbel4 (Nat.le_refl _) _)
        clear hK K hHeld
        have hHeld := hNext
        clear hNext
        (try dsimp only at hHeld)
        try simp only [Act.put, List.getElem_toArray, List.getElem_cons_succ, List.getElem_cons_zero, List.setIfInBounds_toArray, List.set_cons_zero, List.set_cons_succ]
        have hbel115 : Below w3.heap.size w3 (World.alloc w4 (.cells #[.slice Ag r.length capg] 35)) := Below.allocT hbel4 (Nat.le_refl _) _
        have q116 := hide (owns_below HO4.out (w' := (World.alloc w4 (.cells #[.slice Ag r.length capg] 35))) ((Below.refl _ _).alloc (Nat.le_refl _) _))
        have q117 := hide (box_to q112.out (w1 := (World.alloc w4 (.cells #[.slice Ag r.length capg] 35))) ((Below.refl _ _).alloc (Nat.le_refl _) _))
        have q118 : Hid (((World.alloc w4 (.cells #[.slice Ag r.length capg] 35))).heap[w4.heap.size]? = some (.cells #[.slice Ag r.length capg] 35 (0, 0))) := heap_new _ _ _ (by simp)
        refine wpAnyH_ready (rs := [7]) (by kernel_rfl) (by simp) ?_
        refine (AllReadyH.cons rfl (fun K hK => ?_) AllReadyH.nil)
        (refine step_append_any _ (by rfl) (.tmp 45) (.tmp 47) _ (by rfl) w3.heap.size 35 i1 _ 1 24 Try.underlying23 hi1 jz0 jz1 jz2 (by rfl) (by decide) (.slice A4 m.rules.length cap4) m.rules.length (flat m.rules.length 1 (fun i _ => fvs i)) (by rfl) q116.out (World.heap (World.alloc w4 (.cells #[.slice Ag r.length capg] 35))).size (some ⟨w4.heap.size, 0, none⟩) 1 1 [.slice Ag r.length capg] (by rfl) ⟨rfl, fun _ => ⟨_, rfl, box_lt q118.out, World.news_of_block q118.out⟩⟩ (by simp [Value.oneCell']) (by unfold maxLen; omega) (by omega) hbel115.size ?_; intro v7 w7 hown7 hg7 _; obtain ⟨A7, cap7, hv7⟩ := owns_form hown7; subst hv7; have hbel7 : Below w3.heap.size w3 w7 := Below.grown hbel115 hg7 hbel115.size (fun j hj => (q116.out.lt j hj).1); have HO7 := hide hown7)
        (try dsimp only)
        refine hK.out _ _ ?_ (fun hNext => ?_)
        · try dsimp only
          exact hbel7
        clear hK K hHeld
        have hHeld := hNext
        clear hNext
        (try dsimp only at hHeld)
        try simp only [Act.put, List.getElem_toArray, List.getElem_cons_succ, List.getElem_cons_zero, List.setIfInBounds_toArray, List.set_cons_zero, List.set_cons_succ]
        have q120 := hide ((hg7.block _ (box_lt q117.out) (fun e => owns_not q116.out q117.out (by decide) e.symm)).trans q117.out)
        refine wpAnyH_take (i := 8) (v := ?vt121) rfl (by kernel_rfl) (by kernel_rfl) (by kernel_rfl) (fun _ _ _ h => h) (Or.inl ⟨by rfl, ?yt121⟩) (by assumption) ?rt121
        case' yt121 => (intro w hSw; clear hSw; go_simp; try with_reducible rfl)
        try simp only [Act.put, List.getElem_toArray, List.getElem_cons_succ, List.getElem_cons_zero, List.setIfInBounds_toArray, List.set_cons_zero, List.set_cons_succ]
        refine wpAnyH_ready (rs := [10]) (by kernel_rfl) (by simp) ?_
        refine (AllReadyH.cons rfl (fun K hK => ?_) AllReadyH.nil)
        have s0 := cellOf q120.out 0
        have s1 := cellOf q120.out 1
        have s2 := unfrozenOf q120.out 0
        have s3 := unfrozenOf q120.out 1
        have s4 := box_lt q120.out
        go_simp
        have hbel123 : Below w3.heap.size w3 (World.setCell (World.setCell w7 ⟨w3.heap.size, 0, none⟩ (.slice A m.opts.length cap)) ⟨w3.heap.size, 1, none⟩ (.slice A7 (m.rules.length + 1) cap7)) := Below.setCell (Below.setCell hbel7 hp109 _) hp109 _
        refine hK.out _ _ ?_ (fun hNext => ?_)
        · try dsimp only
          exact hbel123
        clear hK K hHeld
        have hHeld := hNext
        clear hNext
        (try dsimp only at hHeld)
        try simp only [Act.put, List.getElem_toArray, List.getElem_cons_succ, List.getElem_cons_zero, List.setIfInBounds_toArray, List.set_cons_zero, List.set_cons_succ]
        have q124 : Hid (((World.setCell (World.setCell w7 ⟨w3.heap.size, 0, none⟩ (.slice A m.opts.length cap)) ⟨w3.heap.size, 1, none⟩ (.slice A7 (m.rules.length + 1) cap7))).heap[w3.heap.size]? = some (.cells #[.slice A m.opts.length cap, .slice A7 (m.rules.length + 1) cap7] 25 (0, 0))) := setCellOf (i := 1) (setCellOf (i := 0) q120.out _) _
        have q125 : Hid (((World.setCell (World.setCell w7 ⟨w3.heap.size, 0, none⟩ (.slice A m.opts.length cap)) ⟨w3.heap.size, 1, none⟩ (.slice A7 (m.rules.length + 1) cap7))).ownsRow w3.heap.size 35 1 (.slice A7 (m.rules.length + 1) cap7) (m.rules.length + 1) ((flat m.rules.length 1 (fun i _ => fvs i)) ++ [.slice Ag r.length capg])) := ownsRow_same HO7.out (fun b hb => (Below.heap_setCell _ _ _ _ (fun e => owns_not HO7.out q120.out (by decide) (by have e2 : b = w3.heap.size := e; rw [← e2]; exact hb))).trans (Below.heap_setCell _ _ _ _ (fun e => owns_not HO7.out q120.out (by decide) (by have e2 : b = w3.heap.size := e; rw [← e2]; exact hb))))
        refine wpAnyH_done (by kernel_rfl) ?_ _
        go_wp2_with fail
        go_meet
        case rel => exact ⟨w3.heap.size, A7, cap7, rfl, hp109, hbel123, q124.out, q125.out⟩
      case' o111 =>
        go_simp
        refine hK.out _ _ ?_ (fun hNext => ?_)
        · try dsimp only
          exact (Below.allocT hbel107 (Nat.le_refl _) _)
        clear hK K hHeld
        have hHeld := hNext
        clear hNext
        (try dsimp only at hHeld)
        try simp only [Act.put, List.getElem_toArray, List.getElem_cons_succ, List.getElem_cons_zero, List.setIfInBounds_toArray, List.set_cons_zero, List.set_cons_succ]
        have hbel127 : Below w3.heap.size w3 (World.alloc (World.alloc w3.drew (.cells #[.slice none 0 0, .slice none 0 0] 25)) (.cells #[.slice Ag r.length capg] 35)) := Below.allocT hbel107 (Nat.le_refl _) _
        have q128 := hide (box_to q108.out (w1 := (World.alloc (World.alloc w3.drew (.cells #[.slice none 0 0, .slice none 0 0] 25)) (.cells #[.slice Ag r.length capg] 35))) ((Below.refl _ _).alloc (Nat.le_refl _) _))
        have q129 : Hid (((World.alloc (World.alloc w3.drew (.cells #[.slice none 0 0, .slice none 0 0] 25)) (.cells #[.slice Ag r.length capg] 35))).heap[w3.heap.size + 1]? = some (.cells #[.slice Ag r.length capg] 35 (0, 0))) := heap_new _ _ _ (by simp)
        refine wpAnyH_ready (rs := [4]) (by kernel_rfl) (by simp) ?_
        refine (AllReadyH.cons rfl (fun K hK => ?_) AllReadyH.nil)
        (refine step_append_any _ (by rfl) _ (.tmp 44) _ (by rfl) w3.heap.size 35 i1 _ 1 24 Try.underlying23 hi1 jz0 jz1 jz2 (by rfl) (by decide) (.slice none 0 0) 0 [] (by rfl) (World.ownsRow_nil _ _ _ _) w.heap.size Ar m.rules.length capr (flat m.rules.length 1 (fun i _ => fvs i)) (by rfl) (HVR.out.below (Below.to HB3.out hbel127 (Nat.le_refl _))) HVO.out (by unfold maxLen; omega) (by omega) hbel127.size ?_; intro v4 w4 hown4 hg4 _; rw [Nat.zero_add, List.nil_append] at hown4; obtain ⟨A4, cap4, hv4⟩ := owns_form hown4; subst hv4; have hB4 : Below (World.heap (World.alloc (World.alloc w3.drew (.cells #[.slice none 0 0, .slice none 0 0] 25)) (.cells #[.slice Ag r.length capg] 35))).size (World.alloc (World.alloc w3.drew (.cells #[.slice none 0 0, .slice none 0 0] 25)) (.cells #[.slice Ag r.length capg] 35)) w4 := Below.grown (Below.refl _ _) hg4 (Nat.le_refl _) (fun j hj => absurd (show (none : Option Nat) = some j from hj) (by simp)); have hbel4 : Below w3.heap.size w3 w4 := Below.to hbel127 hB4 (Nat.le_refl _); have HO4 := hide hown4)
        (try dsimp only)
        refine hK.out _ _ ?_ (fun hNext => ?_)
        · try dsimp only
          exact hbel4
        clear hK K hHeld
        have hHeld := hNext
        clear hNext
        (try dsimp only at hHeld)
        try simp only [Act.put, List.getElem_toArray, List.getElem_cons_succ, List.getElem_cons_zero, List.setIfInBounds_toArray, List.set_cons_zero, List.set_cons_succ]
        have q131 := hide (box_to q129.out hB4)
        have q132 := hide (box_to q128.out hB4)
        refine wpAnyH_ready (rs := [7]) (by kernel_rfl) (by simp) ?_
        refine (AllReadyH.cons rfl (fun K hK => ?_) AllReadyH.nil)
        (refine step_append_any _ (by rfl) (.tmp 45) (.tmp 47) _ (by rfl) w3.heap.size 35 i1 _ 1 24 Try.underlying23 hi1 jz0 jz1 jz2 (by rfl) (by decide) (.slice A4 m.rules.length cap4) m.rules.length (flat m.rules.length 1 (fun i _ => fvs i)) (by rfl) HO4.out (World.heap w4).size (some ⟨w3.heap.size + 1, 0, none⟩) 1 1 [.slice Ag r.length capg] (by rfl) ⟨rfl, fun _ => ⟨_, rfl, box_lt q131.out, World.news_of_block q131.out⟩⟩ (by simp [Value.oneCell']) (by unfold maxLen; omega) (by omega) hbel4.size ?_; intro v7 w7 hown7 hg7 _; obtain ⟨A7, cap7, hv7⟩ := owns_form hown7; subst hv7; have hbel7 : Below w3.heap.size w3 w7 := Below.grown hbel4 hg7 hbel4.size (fun j hj => (HO4.out.lt j hj).1); have HO7 := hide hown7)
        (try dsimp only)
        refine hK.out _ _ ?_ (fun hNext => ?_)
        · try dsimp only
          exact hbel7
        clear hK K hHeld
        have hHeld := hNext
        clear hNext
        (try dsimp only at hHeld)
        try simp only [Act.put, List.getElem_toArray, List.getElem_cons_succ, List.getElem_cons_zero, List.setIfInBounds_toArray, List.set_cons_zero, List.set_cons_succ]
        have q134 := hide ((hg7.block _ (box_lt q132.out) (fun e => owns_not HO4.out q132.out (by decide) e.symm)).trans q132.out)
        refine wpAnyH_take (i := 8) (v := ?vt135) rfl (by kernel_rfl) (by kernel_rfl) (by kernel_rfl) (fun _ _ _ h => h) (Or.inl ⟨by rfl, ?yt135⟩) (by assumption) ?rt135
        case' yt135 => (intro w hSw; clear hSw; go_simp; try with_reducible rfl)
        try simp only [Act.put, List.getElem_toArray, List.getElem_cons_succ, List.getElem_cons_zero, List.setIfInBounds_toArray, List.set_cons_zero, List.set_cons_succ]
        refine wpAnyH_ready (rs := [10]) (by kernel_rfl) (by simp) ?_
        refine (AllReadyH.cons rfl (fun K hK => ?_) AllReadyH.nil)
        have s0 := cellOf q134.out 0
        have s1 := cellOf q134.out 1
        have s2 := unfrozenOf q134.out 0
        have s3 := unfrozenOf q134.out 1
        have s4 := box_lt q134.out
        go_simp
        have hbel137 : Below w3.heap.size w3 (World.setCell (World.setCell w7 ⟨w3.heap.size, 0, none⟩ (.slice A m.opts.length cap)) ⟨w3.heap.size, 1, none⟩ (.slice A7 (m.rules.length + 1) cap7)) := Below.setCell (Below.setCell hbel7 hp109 _) hp109 _
        refine hK.out _ _ ?_ (fun hNext => ?_)
        · try dsimp only
          exact hbel137
        clear hK K hHeld
        have hHeld := hNext
        clear hNext
        (try dsimp only at hHeld)
        try simp only [Act.put, List.getElem_toArray, List.getElem_cons_succ, List.getElem_cons_zero, List.setIfInBounds_toArray, List.set_cons_zero, List.set_cons_succ]
        have q138 : Hid (((World.setCell (World.setCell w7 ⟨w3.heap.size, 0, none⟩ (.slice A m.opts.length cap)) ⟨w3.heap.size, 1, none⟩ (.slice A7 (m.rules.length + 1) cap7))).heap[w3.heap.size]? = some (.cells #[.slice A m.opts.length cap, .slice A7 (m.rules.length + 1) cap7] 25 (0, 0))) := setCellOf (i := 1) (setCellOf (i := 0) q134.out _) _
        have q139 : Hid (((World.setCell (World.setCell w7 ⟨w3.heap.size, 0, none⟩ (.slice A m.opts.length cap)) ⟨w3.heap.size, 1, none⟩ (.slice A7 (m.rules.length + 1) cap7))).ownsRow w3.heap.size 35 1 (.slice A7 (m.rules.length + 1) cap7) (m.rules.length + 1) ((flat m.rules.length 1 (fun i _ => fvs i)) ++ [.slice Ag r.length capg])) := ownsRow_same HO7.out (fun b hb => (Below.heap_setCell _ _ _ _ (fun e => owns_not HO7.out q134.out (by decide) (by have e2 : b = w3.heap.size := e; rw [← e2]; exact hb))).trans (Below.heap_setCell _ _ _ _ (fun e => owns_not HO7.out q134.out (by decide) (by have e2 : b = w3.heap.size := e; rw [← e2]; exact hb))))
        refine wpAnyH_done (by kernel_rfl) ?_ _
        go_wp2_with fail
        go_meet
        case rel => exact ⟨w3.heap.size, A7, cap7, rfl, hp109, hbel137, q138.out, q139.out⟩
  case rest =>
    obtain ⟨pb, A7, cap7, rfl, hpb, hbl, hmb, how⟩ := hcut
    obtain ⟨w4, hw4⟩ : ∃ x, x = wc := ⟨_, rfl⟩
    subst hw4
    have HB4 : Hid (Below w.heap.size w w4) := Below.to HB3.out hbl.out (Nat.le_refl _)
    have HX4 := hide (box_to HX3.out hbl.out)
    have HY4 := hide hmb.out
    have HG4 : Hid (MoAt w4 w4.heap.size (.slice A m.opts.length cap) (.slice A7 (m.rules.length + 1) cap7) (moM m r)) := ⟨(H.out.up HB4.out).o, forms_more how.out (fun i hi => Sl.up (HFI.out i hi) HB4.out) (HIR.out.up HB4.out)⟩
    clear c0 c1 hbx3 hbl hmb how
    have c0 := cellOf HX4.out 0
    have c1 := cellOf HX4.out 1
    have d0 := cellOf HY4.out 0
    have d1 := cellOf HY4.out 1
    go_upto_region 5 with (go_at_call 31; refine (Count_any m f _ _ _ _ HS.out hfl (H.out.up HB4.out) (HIF.out.up HB4.out) (HNU.out _)).mono ?_; rw [HCA.out.1, HCA.out.2]; rintro e w5 ⟨rfl, hB5⟩; have HB5 : Hid (Below w.heap.size w w5) := Below.to HB4.out hB5 (Nat.le_refl _); have HX5 := hide (box_to HX4.out hB5); (try clear c0 c1); have c0 := cellOf HX5.out 0; have c1 := cellOf HX5.out 1; have HY5 := hide (box_to HY4.out hB5); have HG5 : Hid (MoAt w5 w5.heap.size (.slice A m.opts.length cap) (.slice A7 (m.rules.length + 1) cap7) (moM m r)) := HG4.out.up hB5; (try clear d0 d1); have d0 := cellOf HY5.out 0; have d1 := cellOf HY5.out 1; clear hB5)
    go_upto_region 6 with (go_at_call 31; refine (Count_any (moM m r) f _ _ _ _ HSM.out hfl HG5.out (HIF.out.up HB5.out) (HNUM.out _)).mono ?_; rw [HCB.out.1, HCB.out.2]; rintro e w6 ⟨rfl, hB6⟩; have HB6 : Hid (Below w.heap.size w w6) := Below.to HB5.out hB6 (Nat.le_refl _); have HX6 := hide (box_to HX5.out hB6); (try clear c0 c1); have c0 := cellOf HX6.out 0; have c1 := cellOf HX6.out 1; have HY6 := hide (box_to HY5.out hB6); have HG6 : Hid (MoAt w6 w6.heap.size (.slice A m.opts.length cap) (.slice A7 (m.rules.length + 1) cap7) (moM m r)) := HG5.out.up hB6; (try clear d0 d1); have d0 := cellOf HY6.out 0; have d1 := cellOf HY6.out 1; clear hB6)
    go_upto_region 9 with (go_at_call 51; refine (Missing_any m _ _ _ HS.out (H.out.up HB6.out) HN.out).mono ?_; unfold MisP; rw [HMX.out.1, HMX.out.2]; rintro e w7 ⟨v7, rfl, hm7, hB7⟩; have HB7 : Hid (Below w.heap.size w w7) := Below.to HB6.out hB7 (Nat.le_refl _); have HX7 := hide (box_to HX6.out hB7); (try clear c0 c1); have c0 := cellOf HX7.out 0; have c1 := cellOf HX7.out 1; have HY7 := hide (box_to HY6.out hB7); have HG7 : Hid (MoAt w7 w7.heap.size (.slice A m.opts.length cap) (.slice A7 (m.rules.length + 1) cap7) (moM m r)) := HG6.out.up hB7; (try clear d0 d1); have d0 := cellOf HY7.out 0; have d1 := cellOf HY7.out 1; obtain ⟨Ax, capx, hAx⟩ := Sl.form hm7; subst hAx; have HM7 := hide hm7; clear hB7 hm7)
    go_upto_region 10 with (go_at_call 51; refine (Missing_any (moM m r) _ _ _ HSM.out HG7.out HNM.out).mono ?_; unfold MisP; rw [HMY.out.1, HMY.out.2]; rintro e w8 ⟨v8, rfl, hm8, hB8⟩; have HB8 : Hid (Below w.heap.size w w8) := Below.to HB7.out hB8 (Nat.le_refl _); have HX8 := hide (box_to HX7.out hB8); (try clear c0 c1); have c0 := cellOf HX8.out 0; have c1 := cellOf HX8.out 1; have HY8 := hide (box_to HY7.out hB8); have HG8 : Hid (MoAt w8 w8.heap.size (.slice A m.opts.length cap) (.slice A7 (m.rules.length + 1) cap7) (moM m r)) := HG7.out.up hB8; (try clear d0 d1); have d0 := cellOf HY8.out 0; have d1 := cellOf HY8.out 1; obtain ⟨Ay, capy, hAy⟩ := Sl.form hm8; subst hAy; have HM8 := hide hm8; have HM7w : Hid (Lks w8 w8.heap.size (.slice Ax X.length capx) X) := HM7.out.up hB8; clear hB8 hm8)
    go_upto_region 14 with (fail)
    go_loopw [14, 15] (fun kc i wr => ∃ i' k : Nat, i' ≤ Y.length ∧ i = .int .i64 i' ∧ kc = .int .i64 k ∧ Hid (k = ((Y.take i').filter (lackB m)).length) ∧ Hid (Below w8.heap.size w8 wr)) (fun _ i _ => Y.length - (intOf i).toNat)
    case atStart => exact ⟨0, 0, Nat.zero_le _, rfl, rfl, rfl, Below.refl _ _⟩
    case round =>
      obtain ⟨i', k, hi', rfl, rfl, hkk, hB⟩ := hrel
      have hk6 : k ≤ 576 := by
        rw [hkk.out]
        exact Nat.le_trans (List.length_filter_le _ _) (Nat.le_trans (List.length_take_le _ _) (by have := HYL.out; omega))
      have hi6 : i' ≤ 576 := by have := HYL.out; omega
      by_cases hgo : i' < Y.length ∧ k < X.length
      · obtain ⟨hly, hlx⟩ := hgo
        have ga : (i' : Int) < (Y.length : Int) := by omega
        have gb : (k : Int) < (X.length : Int) := by omega
        have ga1 : (0 : Int) ≤ (i' : Int) := by omega
        have gb1 : (0 : Int) ≤ (k : Int) := by omega
        have ga2 : decide ((i' : Int) < (Y.length : Int)) = true := decide_eq_true ga
        have gb2 : decide ((k : Int) < (X.length : Int)) = true := decide_eq_true gb
        obtain ⟨by8, oy, hAy, hby, p0, p1, p2, p3⟩ := lksAt HM8.out hly
        obtain ⟨bx8, ox, hAx, hbx, s0, s1, s2, s3⟩ := lksAt HM7w.out hlx
        subst hAy hAx
        have hfa := filt_at (p := lackB m) hly
        have hfi2 := filt_in (p := lackB m) (Y := Y) (k := k) (by rw [← HXY.out]; exact hlx)
        rw [← hkk.out, ← HXY.out] at hfa
        rw [← HXY.out] at hfi2
        obtain ⟨y, hy⟩ : ∃ z, Y.getD i' Lk.z = z := ⟨_, rfl⟩
        obtain ⟨x, hx⟩ : ∃ z, X.getD k Lk.z = z := ⟨_, rfl⟩
        rw [hy] at p0 p1 p2 p3 hfa
        rw [hx] at s0 s1 s2 s3 hfi2 hfa
        obtain ⟨lk, hlk⟩ : ∃ z, lackB m y = z := ⟨_, rfl⟩
        rw [hlk] at hfa
        have hnx : Hid (k + (if lk = true then 1 else 0) = ((Y.take (i' + 1)).filter (lackB m)).length) := by
          cases lk with
          | true => show k + 1 = _; rw [(hfa.1 rfl).2.2, List.length_append, ← hkk.out]; rfl
          | false => show k + 0 = _; rw [hfa.2 rfl, ← hkk.out]; rfl
        obtain ⟨ya, yb, ywa, ywb⟩ := y
        obtain ⟨xa, xb, xwa, xwb⟩ := x
        dsimp only at p0 p1 p2 p3 s0 s1 s2 s3
        have e0 := (hB.out.cell (p := ⟨by8, oy + i' * 4, none⟩) hby).trans p0
        have e1 := (hB.out.cell (p := ⟨by8, oy + i' * 4 + 1, none⟩) hby).trans p1
        have e2 := (hB.out.cell (p := ⟨by8, oy + i' * 4 + 2, none⟩) hby).trans p2
        have e3 := (hB.out.cell (p := ⟨by8, oy + i' * 4 + 3, none⟩) hby).trans p3
        have t0 := (hB.out.cell (p := ⟨bx8, ox + k * 4, none⟩) hbx).trans s0
        have t1 := (hB.out.cell (p := ⟨bx8, ox + k * 4 + 1, none⟩) hbx).trans s1
        have t2 := (hB.out.cell (p := ⟨bx8, ox + k * 4 + 2, none⟩) hbx).trans s2
        have t3 := (hB.out.cell (p := ⟨bx8, ox + k * 4 + 3, none⟩) hbx).trans s3
        have ly := Nat.lt_of_lt_of_le hby hB.out.size
        have lx := Nat.lt_of_lt_of_le hbx hB.out.size
        clear p0 p1 p2 p3 s0 s1 s2 s3 hy hx c0 c1 d0 d1 hkk
        go_upto_region 16 with (fail)
        cases lk with
        | true =>
          have hye := (hfa.1 rfl).2.1
          injection hye with h1 h2 h3 h4
          subst h1 h2 h3 h4
          clear hfa hfi2 hlk
          refine wp_region_held_drew (S := (fun w' => Below wr.heap.size wr w')) (by kernel_rfl) ?_ (fun hHeld => ?_)
          · try dsimp only
            exact (by repeat (first | exact Below.refl _ _ | assumption | refine Below.drew ?_ | refine Below.drewN ?_ _ | refine Below.allocT ?_ (Nat.le_refl _) _ | refine Below.setCell ?_ (by simp <;> omega) _ | refine Below.to ?_ (by assumption) (Nat.le_refl _)))
          refine wpAnyH_take (i := 0) (v := ?v1_0) rfl (by kernel_rfl) (by kernel_rfl) (by kernel_rfl) (fun _ _ _ h => h) (Or.inl ⟨by rfl, ?y1_0⟩) (by assumption) ?r1_0
          case' y1_0 => (intro w hSw; (try dsimp only at hSw); (try have hlS := HLK.out _ hSw); obtain ⟨hcS, hfS⟩ := bcell hSw; clear hSw; go_simp; try with_reducible rfl)
          try simp only [Act.put, List.getElem_toArray, List.getElem_cons_succ, List.getElem_cons_zero, List.setIfInBounds_toArray, List.set_cons_zero, List.set_cons_succ]
          refine wpAnyH_take (i := 1) (v := ?v1_1) rfl (by kernel_rfl) (by kernel_rfl) (by kernel_rfl) (fun _ _ _ h => h) (Or.inl ⟨by rfl, ?y1_1⟩) (by assumption) ?r1_1
          case' y1_1 => (intro w hSw; (try dsimp only at hSw); (try have hlS := HLK.out _ hSw); obtain ⟨hcS, hfS⟩ := bcell hSw; clear hSw; go_simp; try with_reducible rfl)
          try simp only [Act.put, List.getElem_toArray, List.getElem_cons_succ, List.getElem_cons_zero, List.setIfInBounds_toArray, List.set_cons_zero, List.set_cons_succ]
          refine wpAnyH_take (i := 2) (v := ?v1_2) rfl (by kernel_rfl) (by kernel_rfl) (by kernel_rfl) (fun _ _ _ h => h) (Or.inl ⟨by rfl, ?y1_2⟩) (by assumption) ?r1_2
          case' y1_2 => (intro w hSw; (try dsimp only at hSw); (try have hlS := HLK.out _ hSw); obtain ⟨hcS, hfS⟩ := bcell hSw; clear hSw; go_simp; try with_reducible rfl)
          try simp only [Act.put, List.getElem_toArray, List.getElem_cons_succ, List.getElem_cons_zero, List.setIfInBounds_toArray, List.set_cons_zero, List.set_cons_succ]
          refine wpAnyH_take (i := 3) (v := ?v1_3) rfl (by kernel_rfl) (by kernel_rfl) (by kernel_rfl) (fun _ _ _ h => h) (Or.inl ⟨by rfl, ?y1_3⟩) (by assumption) ?r1_3
          case' y1_3 => (intro w hSw; (try dsimp only at hSw); (try have hlS := HLK.out _ hSw); obtain ⟨hcS, hfS⟩ := bcell hSw; clear hSw; go_simp; try with_reducible rfl)
          try simp only [Act.put, List.getElem_toArray, List.getElem_cons_succ, List.getElem_cons_zero, List.setIfInBounds_toArray, List.set_cons_zero, List.set_cons_succ]
          refine wpAnyH_take (i := 4) (v := ?v1_4) rfl (by kernel_rfl) (by kernel_rfl) (by kernel_rfl) (fun _ _ _ h => h) (Or.inl ⟨by rfl, ?y1_4⟩) (by assumption) ?r1_4
          case' y1_4 => (intro w hSw; (try dsimp only at hSw); (try have hlS := HLK.out _ hSw); obtain ⟨hcS, hfS⟩ := bcell hSw; clear hSw; go_simp; try with_reducible rfl)
          try simp only [Act.put, List.getElem_toArray, List.getElem_cons_succ, List.getElem_cons_zero, List.setIfInBounds_toArray, List.set_cons_zero, List.set_cons_succ]
          refine wpAnyH_take (i := 5) (v := ?v1_5) rfl (by kernel_rfl) (by kernel_rfl) (by kernel_rfl) (fun _ _ _ h => h) (Or.inl ⟨by rfl, ?y1_5⟩) (by assumption) ?r1_5
          case' y1_5 => (intro w hSw; (try dsimp only at hSw); (try have hlS := HLK.out _ hSw); obtain ⟨hcS, hfS⟩ := bcell hSw; clear hSw; go_simp; try with_reducible rfl)
          try simp only [Act.put, List.getElem_toArray, List.getElem_cons_succ, List.getElem_cons_zero, List.setIfInBounds_toArray, List.set_cons_zero, List.set_cons_succ]
          refine wpAnyH_take (i := 6) (v := ?v1_6) rfl (by kernel_rfl) (by kernel_rfl) (by kernel_rfl) (fun _ _ _ h => h) (Or.inl ⟨by rfl, ?y1_6⟩) (by assumption) ?r1_6
          case' y1_6 => (intro w hSw; (try dsimp only at hSw); (try have hlS := HLK.out _ hSw); obtain ⟨hcS, hfS⟩ := bcell hSw; clear hSw; go_simp; try with_reducible rfl)
          try simp only [Act.put, List.getElem_toArray, List.getElem_cons_succ, List.getElem_cons_zero, List.setIfInBounds_toArray, List.set_cons_zero, List.set_cons_succ]
          refine wpAnyH_take (i := 7) (v := ?v1_7) rfl (by kernel_rfl) (by kernel_rfl) (by kernel_rfl) (fun _ _ _ h => h) (Or.inl ⟨by rfl, ?y1_7⟩) (by assumption) ?r1_7
          case' y1_7 => (intro w hSw; (try dsimp only at hSw); (try have hlS := HLK.out _ hSw); obtain ⟨hcS, hfS⟩ := bcell hSw; clear hSw; go_simp; try with_reducible rfl)
          try simp only [Act.put, List.getElem_toArray, List.getElem_cons_succ, List.getElem_cons_zero, List.setIfInBounds_toArray, List.set_cons_zero, List.set_cons_succ]
          refine wpAnyH_take (i := 8) (v := ?v1_8) rfl (by kernel_rfl) (by kernel_rfl) (by kernel_rfl) (fun _ _ _ h => h) (Or.inl ⟨by rfl, ?y1_8⟩) (by assumption) ?r1_8
          case' y1_8 => (intro w hSw; (try dsimp only at hSw); (try have hlS := HLK.out _ hSw); obtain ⟨hcS, hfS⟩ := bcell hSw; clear hSw; go_simp; try with_reducible rfl)
          try simp only [Act.put, List.getElem_toArray, List.getElem_cons_succ, List.getElem_cons_zero, List.setIfInBounds_toArray, List.set_cons_zero, List.set_cons_succ]
          refine wpAnyH_done (by kernel_rfl) ?_ _
          go_wp2_with fail
          go_roundw
          case rel => exact ⟨i' + 1, k + 1, by omega, by go_num, by go_num, hnx.out, Below.to hB.out hHeld (Nat.le_refl _)⟩
          case measure => simp [intOf]; omega
        | false =>
          have hne : ¬ (ya = xa ∧ yb = xb ∧ ywa = xwa ∧ ywb = xwb) := by
            rintro ⟨rfl, rfl, rfl, rfl⟩
            rw [hlk] at hfi2
            cases hfi2
          clear hfa hfi2 hlk
          by_cases o1 : (ya : Int) = (xa : Int)
          · by_cases o2 : (yb : Int) = (xb : Int)
            · cases o3 : (ywa == xwa) with
              | true =>
                have o4 : (ywb == xwb) = false := by
                  rw [beq_eq_false_iff_ne]
                  exact fun e => hne ⟨by omega, by omega, by simpa using o3, e⟩
                clear hne
                refine wp_region_held_drew (S := (fun w' => Below wr.heap.size wr w')) (by kernel_rfl) ?_ (fun hHeld => ?_)
                · try dsimp only
                  exact (by repeat (first | exact Below.refl _ _ | assumption | refine Below.drew ?_ | refine Below.drewN ?_ _ | refine Below.allocT ?_ (Nat.le_refl _) _ | refine Below.setCell ?_ (by simp <;> omega) _ | refine Below.to ?_ (by assumption) (Nat.le_refl _)))
                refine wpAnyH_take (i := 0) (v := ?v2_0) rfl (by kernel_rfl) (by kernel_rfl) (by kernel_rfl) (fun _ _ _ h => h) (Or.inl ⟨by rfl, ?y2_0⟩) (by assumption) ?r2_0
                case' y2_0 => (intro w hSw; (try dsimp only at hSw); (try have hlS := HLK.out _ hSw); obtain ⟨hcS, hfS⟩ := bcell hSw; clear hSw; go_simp; try with_reducible rfl)
                try simp only [Act.put, List.getElem_toArray, List.getElem_cons_succ, List.getElem_cons_zero, List.setIfInBounds_toArray, List.set_cons_zero, List.set_cons_succ]
                refine wpAnyH_take (i := 1) (v := ?v2_1) rfl (by kernel_rfl) (by kernel_rfl) (by kernel_rfl) (fun _ _ _ h => h) (Or.inl ⟨by rfl, ?y2_1⟩) (by assumption) ?r2_1
                case' y2_1 => (intro w hSw; (try dsimp only at hSw); (try have hlS := HLK.out _ hSw); obtain ⟨hcS, hfS⟩ := bcell hSw; clear hSw; go_simp; try with_reducible rfl)
                try simp only [Act.put, List.getElem_toArray, List.getElem_cons_succ, List.getElem_cons_zero, List.setIfInBounds_toArray, List.set_cons_zero, List.set_cons_succ]
                refine wpAnyH_take (i := 2) (v := ?v2_2) rfl (by kernel_rfl) (by kernel_rfl) (by kernel_rfl) (fun _ _ _ h => h) (Or.inl ⟨by rfl, ?y2_2⟩) (by assumption) ?r2_2
                case' y2_2 => (intro w hSw; (try dsimp only at hSw); (try have hlS := HLK.out _ hSw); obtain ⟨hcS, hfS⟩ := bcell hSw; clear hSw; go_simp; try with_reducible rfl)
                try simp only [Act.put, List.getElem_toArray, List.getElem_cons_succ, List.getElem_cons_zero, List.setIfInBounds_toArray, List.set_cons_zero, List.set_cons_succ]
                refine wpAnyH_take (i := 3) (v := ?v2_3) rfl (by kernel_rfl) (by kernel_rfl) (by kernel_rfl) (fun _ _ _ h => h) (Or.inl ⟨by rfl, ?y2_3⟩) (by assumption) ?r2_3
                case' y2_3 => (intro w hSw; (try dsimp only at hSw); (try have hlS := HLK.out _ hSw); obtain ⟨hcS, hfS⟩ := bcell hSw; clear hSw; go_simp; try with_reducible rfl)
                try simp only [Act.put, List.getElem_toArray, List.getElem_cons_succ, List.getElem_cons_zero, List.setIfInBounds_toArray, List.set_cons_zero, List.set_cons_succ]
                refine wpAnyH_take (i := 4) (v := ?v2_4) rfl (by kernel_rfl) (by kernel_rfl) (by kernel_rfl) (fun _ _ _ h => h) (Or.inl ⟨by rfl, ?y2_4⟩) (by assumption) ?r2_4
                case' y2_4 => (intro w hSw; (try dsimp only at hSw); (try have hlS := HLK.out _ hSw); obtain ⟨hcS, hfS⟩ := bcell hSw; clear hSw; go_simp; try with_reducible rfl)
                try simp only [Act.put, List.getElem_toArray, List.getElem_cons_succ, List.getElem_cons_zero, List.setIfInBounds_toArray, List.set_cons_zero, List.set_cons_succ]
                refine wpAnyH_take (i := 5) (v := ?v2_5) rfl (by kernel_rfl) (by kernel_rfl) (by kernel_rfl) (fun _ _ _ h => h) (Or.inl ⟨by rfl, ?y2_5⟩) (by assumption) ?r2_5
                case' y2_5 => (intro w hSw; (try dsimp only at hSw); (try have hlS := HLK.out _ hSw); obtain ⟨hcS, hfS⟩ := bcell hSw; clear hSw; go_simp; try with_reducible rfl)
                try simp only [Act.put, List.getElem_toArray, List.getElem_cons_succ, List.getElem_cons_zero, List.setIfInBounds_toArray, List.set_cons_zero, List.set_cons_succ]
                refine wpAnyH_take (i := 6) (v := ?v2_6) rfl (by kernel_rfl) (by kernel_rfl) (by kernel_rfl) (fun _ _ _ h => h) (Or.inl ⟨by rfl, ?y2_6⟩) (by assumption) ?r2_6
                case' y2_6 => (intro w hSw; (try dsimp only at hSw); (try have hlS := HLK.out _ hSw); obtain ⟨hcS, hfS⟩ := bcell hSw; clear hSw; go_simp; try with_reducible rfl)
                try simp only [Act.put, List.getElem_toArray, List.getElem_cons_succ, List.getElem_cons_zero, List.setIfInBounds_toArray, List.set_cons_zero, List.set_cons_succ]
                refine wpAnyH_take (i := 7) (v := ?v2_7) rfl (by kernel_rfl) (by kernel_rfl) (by kernel_rfl) (fun _ _ _ h => h) (Or.inl ⟨by rfl, ?y2_7⟩) (by assumption) ?r2_7
                case' y2_7 => (intro w hSw; (try dsimp only at hSw); (try have hlS := HLK.out _ hSw); obtain ⟨hcS, hfS⟩ := bcell hSw; clear hSw; go_simp; try with_reducible rfl)
                try simp only [Act.put, List.getElem_toArray, List.getElem_cons_succ, List.getElem_cons_zero, List.setIfInBounds_toArray, List.set_cons_zero, List.set_cons_succ]
                refine wpAnyH_take (i := 8) (v := ?v2_8) rfl (by kernel_rfl) (by kernel_rfl) (by kernel_rfl) (fun _ _ _ h => h) (Or.inl ⟨by rfl, ?y2_8⟩) (by assumption) ?r2_8
                case' y2_8 => (intro w hSw; (try dsimp only at hSw); (try have hlS := HLK.out _ hSw); obtain ⟨hcS, hfS⟩ := bcell hSw; clear hSw; go_simp; try with_reducible rfl)
                try simp only [Act.put, List.getElem_toArray, List.getElem_cons_succ, List.getElem_cons_zero, List.setIfInBounds_toArray, List.set_cons_zero, List.set_cons_succ]
                refine wpAnyH_done (by kernel_rfl) ?_ _
                go_wp2_with fail
                go_roundw
                case rel => exact ⟨i' + 1, k, by omega, by go_num, rfl, hnx.out, Below.to hB.out hHeld (Nat.le_refl _)⟩
                case measure => simp [intOf]; omega
              | false =>
                clear hne
                refine wp_region_held_drew (S := (fun w' => Below wr.heap.size wr w')) (by kernel_rfl) ?_ (fun hHeld => ?_)
                · try dsimp only
                  exact (by repeat (first | exact Below.refl _ _ | assumption | refine Below.drew ?_ | refine Below.drewN ?_ _ | refine Below.allocT ?_ (Nat.le_refl _) _ | refine Below.setCell ?_ (by simp <;> omega) _ | refine Below.to ?_ (by assumption) (Nat.le_refl _)))
                refine wpAnyH_take (i := 0) (v := ?v3_0) rfl (by kernel_rfl) (by kernel_rfl) (by kernel_rfl) (fun _ _ _ h => h) (Or.inl ⟨by rfl, ?y3_0⟩) (by assumption) ?r3_0
                case' y3_0 => (intro w hSw; (try dsimp only at hSw); (try have hlS := HLK.out _ hSw); obtain ⟨hcS, hfS⟩ := bcell hSw; clear hSw; go_simp; try with_reducible rfl)
                try simp only [Act.put, List.getElem_toArray, List.getElem_cons_succ, List.getElem_cons_zero, List.setIfInBounds_toArray, List.set_cons_zero, List.set_cons_succ]
                refine wpAnyH_take (i := 1) (v := ?v3_1) rfl (by kernel_rfl) (by kernel_rfl) (by kernel_rfl) (fun _ _ _ h => h) (Or.inl ⟨by rfl, ?y3_1⟩) (by assumption) ?r3_1
                case' y3_1 => (intro w hSw; (try dsimp only at hSw); (try have hlS := HLK.out _ hSw); obtain ⟨hcS, hfS⟩ := bcell hSw; clear hSw; go_simp; try with_reducible rfl)
                try simp only [Act.put, List.getElem_toArray, List.getElem_cons_succ, List.getElem_cons_zero, List.setIfInBounds_toArray, List.set_cons_zero, List.set_cons_succ]
                refine wpAnyH_take (i := 2) (v := ?v3_2) rfl (by kernel_rfl) (by kernel_rfl) (by kernel_rfl) (fun _ _ _ h => h) (Or.inl ⟨by rfl, ?y3_2⟩) (by assumption) ?r3_2
                case' y3_2 => (intro w hSw; (try dsimp only at hSw); (try have hlS := HLK.out _ hSw); obtain ⟨hcS, hfS⟩ := bcell hSw; clear hSw; go_simp; try with_reducible rfl)
                try simp only [Act.put, List.getElem_toArray, List.getElem_cons_succ, List.getElem_cons_zero, List.setIfInBounds_toArray, List.set_cons_zero, List.set_cons_succ]
                refine wpAnyH_take (i := 3) (v := ?v3_3) rfl (by kernel_rfl) (by kernel_rfl) (by kernel_rfl) (fun _ _ _ h => h) (Or.inl ⟨by rfl, ?y3_3⟩) (by assumption) ?r3_3
                case' y3_3 => (intro w hSw; (try dsimp only at hSw); (try have hlS := HLK.out _ hSw); obtain ⟨hcS, hfS⟩ := bcell hSw; clear hSw; go_simp; try with_reducible rfl)
                try simp only [Act.put, List.getElem_toArray, List.getElem_cons_succ, List.getElem_cons_zero, List.setIfInBounds_toArray, List.set_cons_zero, List.set_cons_succ]
                refine wpAnyH_take (i := 4) (v := ?v3_4) rfl (by kernel_rfl) (by kernel_rfl) (by kernel_rfl) (fun _ _ _ h => h) (Or.inl ⟨by rfl, ?y3_4⟩) (by assumption) ?r3_4
                case' y3_4 => (intro w hSw; (try dsimp only at hSw); (try have hlS := HLK.out _ hSw); obtain ⟨hcS, hfS⟩ := bcell hSw; clear hSw; go_simp; try with_reducible rfl)
                try simp only [Act.put, List.getElem_toArray, List.getElem_cons_succ, List.getElem_cons_zero, List.setIfInBounds_toArray, List.set_cons_zero, List.set_cons_succ]
                refine wpAnyH_take (i := 5) (v := ?v3_5) rfl (by kernel_rfl) (by kernel_rfl) (by kernel_rfl) (fun _ _ _ h => h) (Or.inl ⟨by rfl, ?y3_5⟩) (by assumption) ?r3_5
                case' y3_5 => (intro w hSw; (try dsimp only at hSw); (try have hlS := HLK.out _ hSw); obtain ⟨hcS, hfS⟩ := bcell hSw; clear hSw; go_simp; try with_reducible rfl)
                try simp only [Act.put, List.getElem_toArray, List.getElem_cons_succ, List.getElem_cons_zero, List.setIfInBounds_toArray, List.set_cons_zero, List.set_cons_succ]
                refine wpAnyH_take (i := 6) (v := ?v3_6) rfl (by kernel_rfl) (by kernel_rfl) (by kernel_rfl) (fun _ _ _ h => h) (Or.inl ⟨by rfl, ?y3_6⟩) (by assumption) ?r3_6
                case' y3_6 => (intro w hSw; (try dsimp only at hSw); (try have hlS := HLK.out _ hSw); obtain ⟨hcS, hfS⟩ := bcell hSw; clear hSw; go_simp; try with_reducible rfl)
                try simp only [Act.put, List.getElem_toArray, List.getElem_cons_succ, List.getElem_cons_zero, List.setIfInBounds_toArray, List.set_cons_zero, List.set_cons_succ]
                refine wpAnyH_take (i := 7) (v := ?v3_7) rfl (by kernel_rfl) (by kernel_rfl) (by kernel_rfl) (fun _ _ _ h => h) (Or.inl ⟨by rfl, ?y3_7⟩) (by assumption) ?r3_7
                case' y3_7 => (intro w hSw; (try dsimp only at hSw); (try have hlS := HLK.out _ hSw); obtain ⟨hcS, hfS⟩ := bcell hSw; clear hSw; go_simp; try with_reducible rfl)
                try simp only [Act.put, List.getElem_toArray, List.getElem_cons_succ, List.getElem_cons_zero, List.setIfInBounds_toArray, List.set_cons_zero, List.set_cons_succ]
                refine wpAnyH_take (i := 8) (v := ?v3_8) rfl (by kernel_rfl) (by kernel_rfl) (by kernel_rfl) (fun _ _ _ h => h) (Or.inl ⟨by rfl, ?y3_8⟩) (by assumption) ?r3_8
                case' y3_8 => (intro w hSw; (try dsimp only at hSw); (try have hlS := HLK.out _ hSw); obtain ⟨hcS, hfS⟩ := bcell hSw; clear hSw; go_simp; try with_reducible rfl)
                try simp only [Act.put, List.getElem_toArray, List.getElem_cons_succ, List.getElem_cons_zero, List.setIfInBounds_toArray, List.set_cons_zero, List.set_cons_succ]
                refine wpAnyH_done (by kernel_rfl) ?_ _
                go_wp2_with fail
                go_roundw
                case rel => exact ⟨i' + 1, k, by omega, by go_num, rfl, hnx.out, Below.to hB.out hHeld (Nat.le_refl _)⟩
                case measure => simp [intOf]; omega
            · clear hne
              refine wp_region_held_drew (S := (fun w' => Below wr.heap.size wr w')) (by kernel_rfl) ?_ (fun hHeld => ?_)
              · try dsimp only
                exact (by repeat (first | exact Below.refl _ _ | assumption | refine Below.drew ?_ | refine Below.drewN ?_ _ | refine Below.allocT ?_ (Nat.le_refl _) _ | refine Below.setCell ?_ (by simp <;> omega) _ | refine Below.to ?_ (by assumption) (Nat.le_refl _)))
              refine wpAnyH_take (i := 0) (v := ?v4_0) rfl (by kernel_rfl) (by kernel_rfl) (by kernel_rfl) (fun _ _ _ h => h) (Or.inl ⟨by rfl, ?y4_0⟩) (by assumption) ?r4_0
              case' y4_0 => (intro w hSw; (try dsimp only at hSw); (try have hlS := HLK.out _ hSw); obtain ⟨hcS, hfS⟩ := bcell hSw; clear hSw; go_simp; try with_reducible rfl)
              try simp only [Act.put, List.getElem_toArray, List.getElem_cons_succ, List.getElem_cons_zero, List.setIfInBounds_toArray, List.set_cons_zero, List.set_cons_succ]
              refine wpAnyH_take (i := 1) (v := ?v4_1) rfl (by kernel_rfl) (by kernel_rfl) (by kernel_rfl) (fun _ _ _ h => h) (Or.inl ⟨by rfl, ?y4_1⟩) (by assumption) ?r4_1
              case' y4_1 => (intro w hSw; (try dsimp only at hSw); (try have hlS := HLK.out _ hSw); obtain ⟨hcS, hfS⟩ := bcell hSw; clear hSw; go_simp; try with_reducible rfl)
              try simp only [Act.put, List.getElem_toArray, List.getElem_cons_succ, List.getElem_cons_zero, List.setIfInBounds_toArray, List.set_cons_zero, List.set_cons_succ]
              refine wpAnyH_take (i := 2) (v := ?v4_2) rfl (by kernel_rfl) (by kernel_rfl) (by kernel_rfl) (fun _ _ _ h => h) (Or.inl ⟨by rfl, ?y4_2⟩) (by assumption) ?r4_2
              case' y4_2 => (intro w hSw; (try dsimp only at hSw); (try have hlS := HLK.out _ hSw); obtain ⟨hcS, hfS⟩ := bcell hSw; clear hSw; go_simp; try with_reducible rfl)
              try simp only [Act.put, List.getElem_toArray, List.getElem_cons_succ, List.getElem_cons_zero, List.setIfInBounds_toArray, List.set_cons_zero, List.set_cons_succ]
              refine wpAnyH_take (i := 3) (v := ?v4_3) rfl (by kernel_rfl) (by kernel_rfl) (by kernel_rfl) (fun _ _ _ h => h) (Or.inl ⟨by rfl, ?y4_3⟩) (by assumption) ?r4_3
              case' y4_3 => (intro w hSw; (try dsimp only at hSw); (try have hlS := HLK.out _ hSw); obtain ⟨hcS, hfS⟩ := bcell hSw; clear hSw; go_simp; try with_reducible rfl)
              try simp only [Act.put, List.getElem_toArray, List.getElem_cons_succ, List.getElem_cons_zero, List.setIfInBounds_toArray, List.set_cons_zero, List.set_cons_succ]
              refine wpAnyH_take (i := 4) (v := ?v4_4) rfl (by kernel_rfl) (by kernel_rfl) (by kernel_rfl) (fun _ _ _ h => h) (Or.inl ⟨by rfl, ?y4_4⟩) (by assumption) ?r4_4
              case' y4_4 => (intro w hSw; (try dsimp only at hSw); (try have hlS := HLK.out _ hSw); obtain ⟨hcS, hfS⟩ := bcell hSw; clear hSw; go_simp; try with_reducible rfl)
              try simp only [Act.put, List.getElem_toArray, List.getElem_cons_succ, List.getElem_cons_zero, List.setIfInBounds_toArray, List.set_cons_zero, List.set_cons_succ]
              refine wpAnyH_take (i := 5) (v := ?v4_5) rfl (by kernel_rfl) (by kernel_rfl) (by kernel_rfl) (fun _ _ _ h => h) (Or.inl ⟨by rfl, ?y4_5⟩) (by assumption) ?r4_5
              case' y4_5 => (intro w hSw; (try dsimp only at hSw); (try have hlS := HLK.out _ hSw); obtain ⟨hcS, hfS⟩ := bcell hSw; clear hSw; go_simp; try with_reducible rfl)
              try simp only [Act.put, List.getElem_toArray, List.getElem_cons_succ, List.getElem_cons_zero, List.setIfInBounds_toArray, List.set_cons_zero, List.set_cons_succ]
              refine wpAnyH_take (i := 6) (v := ?v4_6) rfl (by kernel_rfl) (by kernel_rfl) (by kernel_rfl) (fun _ _ _ h => h) (Or.inl ⟨by rfl, ?y4_6⟩) (by assumption) ?r4_6
              case' y4_6 => (intro w hSw; (try dsimp only at hSw); (try have hlS := HLK.out _ hSw); obtain ⟨hcS, hfS⟩ := bcell hSw; clear hSw; go_simp; try with_reducible rfl)
              try simp only [Act.put, List.getElem_toArray, List.getElem_cons_succ, List.getElem_cons_zero, List.setIfInBounds_toArray, List.set_cons_zero, List.set_cons_succ]
              refine wpAnyH_take (i := 7) (v := ?v4_7) rfl (by kernel_rfl) (by kernel_rfl) (by kernel_rfl) (fun _ _ _ h => h) (Or.inl ⟨by rfl, ?y4_7⟩) (by assumption) ?r4_7
              case' y4_7 => (intro w hSw; (try dsimp only at hSw); (try have hlS := HLK.out _ hSw); obtain ⟨hcS, hfS⟩ := bcell hSw; clear hSw; go_simp; try with_reducible rfl)
              try simp only [Act.put, List.getElem_toArray, List.getElem_cons_succ, List.getElem_cons_zero, List.setIfInBounds_toArray, List.set_cons_zero, List.set_cons_succ]
              refine wpAnyH_take (i := 8) (v := ?v4_8) rfl (by kernel_rfl) (by kernel_rfl) (by kernel_rfl) (fun _ _ _ h => h) (Or.inl ⟨by rfl, ?y4_8⟩) (by assumption) ?r4_8
              case' y4_8 => (intro w hSw; (try dsimp only at hSw); (try have hlS := HLK.out _ hSw); obtain ⟨hcS, hfS⟩ := bcell hSw; clear hSw; go_simp; try with_reducible rfl)
              try simp only [Act.put, List.getElem_toArray, List.getElem_cons_succ, List.getElem_cons_zero, List.setIfInBounds_toArray, List.set_cons_zero, List.set_cons_succ]
              refine wpAnyH_done (by kernel_rfl) ?_ _
              go_wp2_with fail
              go_roundw
              case rel => exact ⟨i' + 1, k, by omega, by go_num, rfl, hnx.out, Below.to hB.out hHeld (Nat.le_refl _)⟩
              case measure => simp [intOf]; omega
          · clear hne
            refine wp_region_held_drew (S := (fun w' => Below wr.heap.size wr w')) (by kernel_rfl) ?_ (fun hHeld => ?_)
            · try dsimp only
              exact (by repeat (first | exact Below.refl _ _ | assumption | refine Below.drew ?_ | refine Below.drewN ?_ _ | refine Below.allocT ?_ (Nat.le_refl _) _ | refine Below.setCell ?_ (by simp <;> omega) _ | refine Below.to ?_ (by assumption) (Nat.le_refl _)))
            refine wpAnyH_take (i := 0) (v := ?v5_0) rfl (by kernel_rfl) (by kernel_rfl) (by kernel_rfl) (fun _ _ _ h => h) (Or.inl ⟨by rfl, ?y5_0⟩) (by assumption) ?r5_0
            case' y5_0 => (intro w hSw; (try dsimp only at hSw); (try have hlS := HLK.out _ hSw); obtain ⟨hcS, hfS⟩ := bcell hSw; clear hSw; go_simp; try with_reducible rfl)
            try simp only [Act.put, List.getElem_toArray, List.getElem_cons_succ, List.getElem_cons_zero, List.setIfInBounds_toArray, List.set_cons_zero, List.set_cons_succ]
            refine wpAnyH_take (i := 1) (v := ?v5_1) rfl (by kernel_rfl) (by kernel_rfl) (by kernel_rfl) (fun _ _ _ h => h) (Or.inl ⟨by rfl, ?y5_1⟩) (by assumption) ?r5_1
            case' y5_1 => (intro w hSw; (try dsimp only at hSw); (try have hlS := HLK.out _ hSw); obtain ⟨hcS, hfS⟩ := bcell hSw; clear hSw; go_simp; try with_reducible rfl)
            try simp only [Act.put, List.getElem_toArray, List.getElem_cons_succ, List.getElem_cons_zero, List.setIfInBounds_toArray, List.set_cons_zero, List.set_cons_succ]
            refine wpAnyH_take (i := 2) (v := ?v5_2) rfl (by kernel_rfl) (by kernel_rfl) (by kernel_rfl) (fun _ _ _ h => h) (Or.inl ⟨by rfl, ?y5_2⟩) (by assumption) ?r5_2
            case' y5_2 => (intro w hSw; (try dsimp only at hSw); (try have hlS := HLK.out _ hSw); obtain ⟨hcS, hfS⟩ := bcell hSw; clear hSw; go_simp; try with_reducible rfl)
            try simp only [Act.put, List.getElem_toArray, List.getElem_cons_succ, List.getElem_cons_zero, List.setIfInBounds_toArray, List.set_cons_zero, List.set_cons_succ]
            refine wpAnyH_take (i := 3) (v := ?v5_3) rfl (by kernel_rfl) (by kernel_rfl) (by kernel_rfl) (fun _ _ _ h => h) (Or.inl ⟨by rfl, ?y5_3⟩) (by assumption) ?r5_3
            case' y5_3 => (intro w hSw; (try dsimp only at hSw); (try have hlS := HLK.out _ hSw); obtain ⟨hcS, hfS⟩ := bcell hSw; clear hSw; go_simp; try with_reducible rfl)
            try simp only [Act.put, List.getElem_toArray, List.getElem_cons_succ, List.getElem_cons_zero, List.setIfInBounds_toArray, List.set_cons_zero, List.set_cons_succ]
            refine wpAnyH_take (i := 4) (v := ?v5_4) rfl (by kernel_rfl) (by kernel_rfl) (by kernel_rfl) (fun _ _ _ h => h) (Or.inl ⟨by rfl, ?y5_4⟩) (by assumption) ?r5_4
            case' y5_4 => (intro w hSw; (try dsimp only at hSw); (try have hlS := HLK.out _ hSw); obtain ⟨hcS, hfS⟩ := bcell hSw; clear hSw; go_simp; try with_reducible rfl)
            try simp only [Act.put, List.getElem_toArray, List.getElem_cons_succ, List.getElem_cons_zero, List.setIfInBounds_toArray, List.set_cons_zero, List.set_cons_succ]
            refine wpAnyH_take (i := 5) (v := ?v5_5) rfl (by kernel_rfl) (by kernel_rfl) (by kernel_rfl) (fun _ _ _ h => h) (Or.inl ⟨by rfl, ?y5_5⟩) (by assumption) ?r5_5
            case' y5_5 => (intro w hSw; (try dsimp only at hSw); (try have hlS := HLK.out _ hSw); obtain ⟨hcS, hfS⟩ := bcell hSw; clear hSw; go_simp; try with_reducible rfl)
            try simp only [Act.put, List.getElem_toArray, List.getElem_cons_succ, List.getElem_cons_zero, List.setIfInBounds_toArray, List.set_cons_zero, List.set_cons_succ]
            refine wpAnyH_take (i := 6) (v := ?v5_6) rfl (by kernel_rfl) (by kernel_rfl) (by kernel_rfl) (fun _ _ _ h => h) (Or.inl ⟨by rfl, ?y5_6⟩) (by assumption) ?r5_6
            case' y5_6 => (intro w hSw; (try dsimp only at hSw); (try have hlS := HLK.out _ hSw); obtain ⟨hcS, hfS⟩ := bcell hSw; clear hSw; go_simp; try with_reducible rfl)
            try simp only [Act.put, List.getElem_toArray, List.getElem_cons_succ, List.getElem_cons_zero, List.setIfInBounds_toArray, List.set_cons_zero, List.set_cons_succ]
            refine wpAnyH_take (i := 7) (v := ?v5_7) rfl (by kernel_rfl) (by kernel_rfl) (by kernel_rfl) (fun _ _ _ h => h) (Or.inl ⟨by rfl, ?y5_7⟩) (by assumption) ?r5_7
            case' y5_7 => (intro w hSw; (try dsimp only at hSw); (try have hlS := HLK.out _ hSw); obtain ⟨hcS, hfS⟩ := bcell hSw; clear hSw; go_simp; try with_reducible rfl)
            try simp only [Act.put, List.getElem_toArray, List.getElem_cons_succ, List.getElem_cons_zero, List.setIfInBounds_toArray, List.set_cons_zero, List.set_cons_succ]
            refine wpAnyH_take (i := 8) (v := ?v5_8) rfl (by kernel_rfl) (by kernel_rfl) (by kernel_rfl) (fun _ _ _ h => h) (Or.inl ⟨by rfl, ?y5_8⟩) (by assumption) ?r5_8
            case' y5_8 => (intro w hSw; (try dsimp only at hSw); (try have hlS := HLK.out _ hSw); obtain ⟨hcS, hfS⟩ := bcell hSw; clear hSw; go_simp; try with_reducible rfl)
            try simp only [Act.put, List.getElem_toArray, List.getElem_cons_succ, List.getElem_cons_zero, List.setIfInBounds_toArray, List.set_cons_zero, List.set_cons_succ]
            refine wpAnyH_done (by kernel_rfl) ?_ _
            go_wp2_with fail
            go_roundw
            case rel => exact ⟨i' + 1, k, by omega, by go_num, rfl, hnx.out, Below.to hB.out hHeld (Nat.le_refl _)⟩
            case measure => simp [intOf]; omega
      · have hke : k = X.length := by
          have h1 := hkk.out
          rcases Nat.lt_or_ge i' Y.length with q | q
          · have h2 : k ≤ X.length := by
              rw [h1, HXY.out]
              conv => rhs; rw [← List.take_append_drop i' Y, List.filter_append, List.length_append]
              omega
            omega
          · rw [h1, HXY.out, List.take_of_length_le q]
        subst hke
        have gb2 : decide ((X.length : Int) < (X.length : Int)) = false := decide_eq_false (by omega)
        have HB9 : Hid (Below w.heap.size w wr) := Below.to HB8.out hB.out (Nat.le_refl _)
        have HX9 := hide (box_to HX8.out hB.out)
        have HY9 := hide (box_to HY8.out hB.out)
        have HG9 : Hid (MoAt wr wr.heap.size (.slice A m.opts.length cap) (.slice A7 (m.rules.length + 1) cap7) (moM m r)) := HG8.out.up hB.out
        obtain ⟨w9, hw9⟩ : ∃ x, x = wr := ⟨_, rfl⟩
        subst hw9
        clear c0 c1 d0 d1 hkk hB hgo
        have c0 := cellOf HX9.out 0
        have c1 := cellOf HX9.out 1
        have d0 := cellOf HY9.out 0
        have d1 := cellOf HY9.out 1
        rcases Nat.lt_or_ge i' Y.length with qq | qq
        · have ga : (i' : Int) < (Y.length : Int) := by omega
          have ga2 : decide ((i' : Int) < (Y.length : Int)) = true := decide_eq_true ga
          go_upto_region 19 with (go_at_call 43; refine (Implies_any m f r _ _ _ _ _ HS.out hfl hrl (H.out.up HB9.out) (HIF.out.up HB9.out) (HIR.out.up HB9.out) HN.out).mono ?_; unfold MeeP; rw [HI1.out.1, HI1.out.2.1, HI1.out.2.2]; rintro e w10 ⟨v10, rfl, hbo10, hB10⟩; have HB10 : Hid (Below w.heap.size w w10) := Below.to HB9.out hB10 (Nat.le_refl _); have HX10 := hide (box_to HX9.out hB10); (try clear c0 c1); have c0 := cellOf HX10.out 0; have c1 := cellOf HX10.out 1; have HY10 := hide (box_to HY9.out hB10); have HG10 : Hid (MoAt w10 w10.heap.size (.slice A m.opts.length cap) (.slice A7 (m.rules.length + 1) cap7) (moM m r)) := HG9.out.up hB10; (try clear d0 d1); have d0 := cellOf HY10.out 0; have d1 := cellOf HY10.out 1; clear hB10 hbo10)
          go_upto_region 20 with (go_at_call 43; refine (Implies_any (moM m r) f r _ _ _ _ _ HSM.out hfl hrl HG10.out (HIF.out.up HB10.out) (HIR.out.up HB10.out) HNM.out).mono ?_; unfold MeeP; rw [HI2.out.1, HI2.out.2.1, HI2.out.2.2]; rintro e w11 ⟨v11, rfl, hbo11, hB11⟩; have HB11 : Hid (Below w.heap.size w w11) := Below.to HB10.out hB11 (Nat.le_refl _); have HX11 := hide (box_to HX10.out hB11); (try clear c0 c1); have c0 := cellOf HX11.out 0; have c1 := cellOf HX11.out 1; have HY11 := hide (box_to HY10.out hB11); have HG11 : Hid (MoAt w11 w11.heap.size (.slice A m.opts.length cap) (.slice A7 (m.rules.length + 1) cap7) (moM m r)) := HG10.out.up hB11; (try clear d0 d1); have d0 := cellOf HY11.out 0; have d1 := cellOf HY11.out 1; clear hB11 hbo11)
          cases is with
          | true =>
            have hab := HEQ.out rfl
            subst hab
            clear HEQ q1 q2 q3 HCA HCB HI1
            go_wp2_with (go_at_call 20; refine (works_any _).mono ?_; rintro e w99 ⟨rfl, hB99⟩)
            go_ret
            exact ⟨rfl, Below.to HB11.out hB99 (Nat.le_refl _)⟩
          | false =>
            clear HEQ q1 q2 q3
            go_wp2_with (go_at_call 20; refine (works_any _).mono ?_; rintro e w99 ⟨rfl, hB99⟩)
            go_ret
            exact ⟨rfl, Below.to HB11.out hB99 (Nat.le_refl _)⟩
        · have ga : ¬ (i' : Int) < (Y.length : Int) := by omega
          have ga2 : decide ((i' : Int) < (Y.length : Int)) = false := decide_eq_false ga
          go_upto_region 19 with (go_at_call 43; refine (Implies_any m f r _ _ _ _ _ HS.out hfl hrl (H.out.up HB9.out) (HIF.out.up HB9.out) (HIR.out.up HB9.out) HN.out).mono ?_; unfold MeeP; rw [HI1.out.1, HI1.out.2.1, HI1.out.2.2]; rintro e w10 ⟨v10, rfl, hbo10, hB10⟩; have HB10 : Hid (Below w.heap.size w w10) := Below.to HB9.out hB10 (Nat.le_refl _); have HX10 := hide (box_to HX9.out hB10); (try clear c0 c1); have c0 := cellOf HX10.out 0; have c1 := cellOf HX10.out 1; have HY10 := hide (box_to HY9.out hB10); have HG10 : Hid (MoAt w10 w10.heap.size (.slice A m.opts.length cap) (.slice A7 (m.rules.length + 1) cap7) (moM m r)) := HG9.out.up hB10; (try clear d0 d1); have d0 := cellOf HY10.out 0; have d1 := cellOf HY10.out 1; clear hB10 hbo10)
          go_upto_region 20 with (go_at_call 43; refine (Implies_any (moM m r) f r _ _ _ _ _ HSM.out hfl hrl HG10.out (HIF.out.up HB10.out) (HIR.out.up HB10.out) HNM.out).mono ?_; unfold MeeP; rw [HI2.out.1, HI2.out.2.1, HI2.out.2.2]; rintro e w11 ⟨v11, rfl, hbo11, hB11⟩; have HB11 : Hid (Below w.heap.size w w11) := Below.to HB10.out hB11 (Nat.le_refl _); have HX11 := hide (box_to HX10.out hB11); (try clear c0 c1); have c0 := cellOf HX11.out 0; have c1 := cellOf HX11.out 1; have HY11 := hide (box_to HY10.out hB11); have HG11 : Hid (MoAt w11 w11.heap.size (.slice A m.opts.length cap) (.slice A7 (m.rules.length + 1) cap7) (moM m r)) := HG10.out.up hB11; (try clear d0 d1); have d0 := cellOf HY11.out 0; have d1 := cellOf HY11.out 1; clear hB11 hbo11)
          cases is with
          | true =>
            have hab := HEQ.out rfl
            subst hab
            clear HEQ q1 q2 q3 HCA HCB HI1
            go_wp2_with (go_at_call 20; refine (works_any _).mono ?_; rintro e w99 ⟨rfl, hB99⟩)
            go_ret
            exact ⟨rfl, Below.to HB11.out hB99 (Nat.le_refl _)⟩
          | false =>
            clear HEQ q1 q2 q3
            go_wp2_with (go_at_call 20; refine (works_any _).mono ?_; rintro e w99 ⟨rfl, hB99⟩)
            go_ret
            exact ⟨rfl, Below.to HB11.out hB99 (Nat.le_refl _)⟩
end Go.Proofs.Ytohofcmikfkilaa

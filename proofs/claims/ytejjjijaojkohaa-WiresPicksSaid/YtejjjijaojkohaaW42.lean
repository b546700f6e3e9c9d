/- Pick: the reference's walk. -/
import Derived.Test.YtejjjijaojkohaaRows
import Derived.Test.YtejjjijaojkohaaW41
import Derived.Test.YtejjjijaojkohaaW17
import Derived.Deep.CutRange
import Derived.Deep.RegionHeld3
namespace Go.Proofs.Ytejjjijaojkohaa
open Go.RowKit
set_option linter.unusedVariables false
set_option linter.unusedSimpArgs false

set_option maxRecDepth 100000 in
set_option maxHeartbeats 4000000 in
theorem rPick_any (gs : List Ga) (fs : List Fu) (n : Ne) (gv fv v : Value) (cs : List Cu) (w : World) (hg30 : gs.length ≤ 30) (hf30 : fs.length ≤ 30) (hn : cs.length ≤ 20) (hG : Gas w w.heap.size gv gs) (hF : Fus w w.heap.size fv fs) (h : Cyc w w.heap.size v cs) :
    Calls Try.prog 44 #[gv, fv, .agg #[v, .int .i64 n.len, .int .i64 n.drop, .int .i64 n.amb]] w fun e w' => e = .returned (.tuple #[.int .i64 (pickV gs fs n cs), .int .i64 (pickW gs fs n cs), .int .i64 (pickErr gs fs n cs)]) ∧ Below w.heap.size w w' := by
  have H := hide h
  obtain ⟨A0, cap0, rfl⟩ := h.form
  have HFS := hide hF
  obtain ⟨A2, b2, off2, cap2, rfl, hnc2, hA2, hc2⟩ := hF
  have HGS := hide hG
  obtain ⟨A1, b, off, cap1, rfl, hnc, hA, hc⟩ := hG
  have HC := hide hc
  have HA := hide hA
  have HC2 := hide hc2
  have HA2 := hide hA2
  clear h hc hA hc2 hA2
  obtain ⟨bg, hbg⟩ : ∃ d, pickB gs fs = d := ⟨_, rfl⟩
  obtain ⟨tb, htb⟩ : ∃ d, tableB gs = d := ⟨_, rfl⟩
  obtain ⟨nk, hnk⟩ : ∃ d, needOk n cs = d := ⟨_, rfl⟩
  have HBG := hide hbg
  have HTB := hide htb
  have HNK := hide hnk
  have hcases : (decide ((20 : Int) < (gs.length : Int)) = true ∧ bg = true) ∨ (decide ((20 : Int) < (gs.length : Int)) = false ∧ decide ((20 : Int) < (fs.length : Int)) = bg) := by
    rw [← hbg]
    unfold pickB
    by_cases h1 : 20 < gs.length
    · exact .inl ⟨by simp; omega, by simp [h1]⟩
    · refine .inr ⟨by simp; omega, ?_⟩
      rw [show decide (20 < gs.length) = false by simpa using h1, Bool.false_or, decide_eq_decide]
      omega
  have hbad : ∀ e : Int, e ≠ 0 → pickErr gs fs n cs = e → pickV gs fs n cs = 0 ∧ pickW gs fs n cs = 0 := fun e h0 he => ⟨by unfold pickV; rw [he, if_neg h0], by unfold pickW; rw [he, if_neg h0]⟩
  have HBAD := hide hbad
  clear hbg htb hnk hbad
  go_enter Try.func44, Try.ntmps44
  go_upto_region 1 with (fail)
  generalize hw0 : World.alloc _ _ = w0
  obtain ⟨hb0, hB0, hs0⟩ := alloc1 hw0
  clear hw0
  have HN0 : Hid (NeedAt w0 w.heap.size (.slice A0 cs.length cap0) n) := hb0
  have hl0 : w.heap.size < w0.heap.size := by omega
  have HB0 := hide hB0
  clear hb0 hs0 hB0
  go_cut [19] from 12 to 79 (fun t wc => t = .bool bg ∧ w0 = wc)
  case first =>
    rcases hcases with ⟨h1, rfl⟩ | ⟨h1, h3⟩
    all_goals
      go_wp2_with fail
      go_meet
      case rel => exact ⟨rfl, rfl⟩
  case rest =>
    obtain ⟨rfl, rfl⟩ := hcut
    cases bg with
    | true =>
      have he : pickErr gs fs n cs = 2 := by unfold pickErr; rw [HBG.out]; rfl
      have HE := hide (And.intro he (HBAD.out 2 (by omega) he))
      clear he
      go_wp2_with fail
      go_ret3
      exact ⟨by rw [HE.out.1, HE.out.2.1, HE.out.2.2]; first | rfl | simp, HB0.out⟩
    | false =>
      go_wp2_with fail
      refine (table_any _ gs _ (by unfold maxLen; omega) ((HGS.out.below HB0.out).more HB0.out.size)).mono ?_
      rw [HTB.out]
      rintro e w1 ⟨rfl, hB1⟩
      have HB1 := hide hB1
      clear hB1
      cases tb with
      | false =>
        have he : pickErr gs fs n cs = 70 := by unfold pickErr; rw [HBG.out, HTB.out]; rfl
        have HE := hide (And.intro he (HBAD.out 70 (by omega) he))
        clear he
        go_wp2_with fail
        go_ret3
        exact ⟨by rw [HE.out.1, HE.out.2.1, HE.out.2.2]; first | rfl | simp, Below.to HB0.out HB1.out (Nat.le_refl _)⟩
      | true =>
        have HB1w : Hid (Below w.heap.size w w1) := Below.to HB0.out HB1.out (Nat.le_refl _)
        go_wp2_with fail
        go_loopw [9] (fun i wr => ∃ k : Nat, k ≤ fs.length ∧ i = .int .i64 k ∧ Hid (∀ j, j < k → (!(fs.getD j Fu.z).ok) = false) ∧ Hid (Below w1.heap.size w1 wr)) (fun i _ => fs.length - (intOf i).toNat)
        case atStart => exact ⟨0, Nat.zero_le _, rfl, fun j hj => by omega, Below.refl _ _⟩
        case round =>
          obtain ⟨k, hk, rfl, hz, hB⟩ := hrel
          have HBq : Hid (Below w.heap.size w wr) := Below.to HB1w.out hB.out (Nat.le_refl _)
          by_cases hlt : k < fs.length
          · obtain ⟨f, HZ, hA1, hbw, h0, h1⟩ := fuAtB HBq.out HA2.out HC2.out hlt
            subst hA1
            cases hok : f.ok
            · have HOK := hide hok
              clear hok
              have he : pickErr gs fs n cs = 72 := by unfold pickErr; rw [HBG.out, HTB.out, show fusB fs = false from by unfold fusB; rw [any_at _ Fu.z fs k hlt (by rw [HZ.out, HOK.out]; rfl)]; rfl]; rfl
              have HE := hide (And.intro he (HBAD.out 72 (by omega) he))
              clear he
              go_wp2_with (go_at_call 56; refine (fuse_any f _).mono ?_; rw [HOK.out]; rintro e w2 ⟨rfl, hB2⟩)
              go_ret3
              exact ⟨by rw [HE.out.1, HE.out.2.1, HE.out.2.2]; first | rfl | simp, Below.to HBq.out hB2 (Nat.le_refl _)⟩
            · have HOK := hide hok
              clear hok
              go_wp2_with (go_at_call 56; refine (fuse_any f _).mono ?_; rw [HOK.out]; rintro e w2 ⟨rfl, hB2⟩)
              go_roundw
              case rel => exact ⟨k + 1, by omega, by go_num, fun j hj => by
                  rcases Nat.lt_or_ge j k with h | h
                  · exact hz.out j h
                  · rw [show j = k from by omega, HZ.out, HOK.out]; rfl, Below.to hB.out hB2 (Nat.le_refl _)⟩
              case measure => simp [intOf]; omega
          · have HFU : Hid (fusB fs = true) := by show _ = _; unfold fusB; rw [any_none _ Fu.z fs (fun j hj => hz.out j (by omega))]; rfl
            have HBr0 : Hid (Below w0.heap.size w0 wr) := Below.to HB1.out hB.out (Nat.le_refl _)
            obtain ⟨k0, k1, k2, k3, _⟩ := need4 HN0.out HBr0.out
            go_wp2_with fail
            refine (rneed_any n _ cs _ hn ((H.out.below HBq.out).more HBq.out.size)).mono ?_
            rw [HNK.out]
            rintro e w2 ⟨rfl, hB2⟩
            have HB2 : Hid (Below w0.heap.size w0 w2) := Below.to HBr0.out hB2 (Nat.le_refl _)
            clear hB2 k0 k1 k2 k3
            cases nk with
            | false =>
              have he : pickErr gs fs n cs = 71 := by unfold pickErr; rw [HBG.out, HTB.out, HFU.out, HNK.out]; rfl
              have HE := hide (And.intro he (HBAD.out 71 (by omega) he))
              clear he
              go_wp2_with fail
              go_ret3
              exact ⟨by rw [HE.out.1, HE.out.2.1, HE.out.2.2]; first | rfl | simp, Below.to HB0.out HB2.out (Nat.le_refl _)⟩
            | true =>
              have HPO : Hid (PickOk gs fs n cs) := by
                have hb := HBG.out
                simp only [pickB, Bool.or_eq_false_iff, decide_eq_false_iff_not] at hb
                exact ⟨by omega, by omega, HTB.out, HFU.out, needOk_iff.1 HNK.out⟩
              clear hz hB HBq HBr0
              go_wp2_with fail
              obtain ⟨wx, rfl⟩ : ∃ wx : World, wx = wr := ⟨_, rfl⟩
              go_loopw [10, 11] (fun i _ wr => ∃ k : Nat, k ≤ gs.length ∧ i = .int .i64 k ∧ Hid (∀ j, j < k → pickA fs n cs (gs.getD j Ga.z) = false) ∧ Hid (Below w0.heap.size w0 wr)) (fun i _ _ => gs.length - (intOf i).toNat)
              case atStart => exact ⟨0, Nat.zero_le _, rfl, fun j hj => by omega, HB2.out⟩
              case round =>
                obtain ⟨k, hk, rfl, hz, hB⟩ := hrel
                have HBq : Hid (Below w.heap.size w wr) := Below.to HB0.out hB.out (Nat.le_refl _)
                by_cases hlt : k < gs.length
                · obtain ⟨g, HZg, hA1, hbw, h0, h1, h2, h3, h4⟩ := gaAtB HBq.out HA.out HC.out hlt
                  subst hA1
                  have hgo : Hid (g.Ok) := Ga.ok_iff.1 (by rw [← HZg.out]; exact tableB_get HPO.out.tab hlt)
                  obtain ⟨d1, hd1⟩ : ∃ x, fitsB g n cs = x := ⟨_, rfl⟩
                  have HD1 := hide hd1
                  clear hd1
                  obtain ⟨k0, k1, k2, k3, _⟩ := need4 HN0.out hB.out
                  have hlb : b < wr.heap.size := by have := HBq.out.size; omega
                  have hlw : w.heap.size < wr.heap.size := by have := hB.out.size; omega
                  have hi0 : (0 : Int) ≤ (k : Int) := by omega
                  have hi1 : (k : Int) < (gs.length : Int) := by omega
                  go_wp2_with fail
                  refine wp_region_held_drew (S := (fun w' => Below wr.heap.size wr w')) (by kernel_rfl) ?_ (fun hHeld => ?_)
                  · try dsimp only
                    exact (by repeat (first | exact Below.refl _ _ | assumption | refine Below.drew ?_ | refine Below.drewN ?_ _ | refine Below.allocT ?_ (Nat.le_refl _) _ | refine Below.setCell ?_ (by simp <;> omega) _ | refine Below.to ?_ (by assumption) (Nat.le_refl _)))
                  refine wpAnyH_take (i := 0) (v := ?v1_0) rfl (by kernel_rfl) (by kernel_rfl) (by kernel_rfl) (fun _ _ _ h => h) (Or.inl ⟨by rfl, ?y1_0⟩) (by assumption) ?r1_0
                  case' y1_0 => (intro w hSw; (try dsimp only at hSw); obtain ⟨hcS, hfS⟩ := bcell hSw; clear hSw; go_simp; try with_reducible rfl)
                  try simp only [Act.put, List.getElem_toArray, List.getElem_cons_succ, List.getElem_cons_zero, List.setIfInBounds_toArray, List.set_cons_zero, List.set_cons_succ]
                  refine wpAnyH_take (i := 1) (v := ?v1_1) rfl (by kernel_rfl) (by kernel_rfl) (by kernel_rfl) (fun _ _ _ h => h) (Or.inl ⟨by rfl, ?y1_1⟩) (by assumption) ?r1_1
                  case' y1_1 => (intro w hSw; (try dsimp only at hSw); obtain ⟨hcS, hfS⟩ := bcell hSw; clear hSw; go_simp; try with_reducible rfl)
                  try simp only [Act.put, List.getElem_toArray, List.getElem_cons_succ, List.getElem_cons_zero, List.setIfInBounds_toArray, List.set_cons_zero, List.set_cons_succ]
                  refine wpAnyH_take (i := 2) (v := ?v1_2) rfl (by kernel_rfl) (by kernel_rfl) (by kernel_rfl) (fun _ _ _ h => h) (Or.inl ⟨by rfl, ?y1_2⟩) (by assumption) ?r1_2
                  case' y1_2 => (intro w hSw; (try dsimp only at hSw); obtain ⟨hcS, hfS⟩ := bcell hSw; clear hSw; go_simp; try with_reducible rfl)
                  try simp only [Act.put, List.getElem_toArray, List.getElem_cons_succ, List.getElem_cons_zero, List.setIfInBounds_toArray, List.set_cons_zero, List.set_cons_succ]
                  refine wpAnyH_take (i := 3) (v := ?v1_3) rfl (by kernel_rfl) (by kernel_rfl) (by kernel_rfl) (fun _ _ _ h => h) (Or.inl ⟨by rfl, ?y1_3⟩) (by assumption) ?r1_3
                  case' y1_3 => (intro w hSw; (try dsimp only at hSw); obtain ⟨hcS, hfS⟩ := bcell hSw; clear hSw; go_simp; try with_reducible rfl)
                  try simp only [Act.put, List.getElem_toArray, List.getElem_cons_succ, List.getElem_cons_zero, List.setIfInBounds_toArray, List.set_cons_zero, List.set_cons_succ]
                  refine wpAnyH_take (i := 4) (v := ?v1_4) rfl (by kernel_rfl) (by kernel_rfl) (by kernel_rfl) (fun _ _ _ h => h) (Or.inl ⟨by rfl, ?y1_4⟩) (by assumption) ?r1_4
                  case' y1_4 => (intro w hSw; (try dsimp only at hSw); obtain ⟨hcS, hfS⟩ := bcell hSw; clear hSw; go_simp; try with_reducible rfl)
                  try simp only [Act.put, List.getElem_toArray, List.getElem_cons_succ, List.getElem_cons_zero, List.setIfInBounds_toArray, List.set_cons_zero, List.set_cons_succ]
                  refine wpAnyH_ready (rs := [5]) (by kernel_rfl) (by simp) ?_
                  refine AllReadyH.cons rfl (fun K hK => ?_) AllReadyH.nil
                  go_simp
                  ((go_at_call 75; refine (rfits_any g n _ cs wr.drew hgo.out HPO.out.need ((H.out.below HBq.out).more HBq.out.size)).mono ?_; rw [HD1.out]; rintro e w3 ⟨rfl, hB3⟩))
                  (try dsimp only)
                  refine hK.out _ _ ?_ (fun hNext => ?_)
                  · try dsimp only
                    exact (by repeat (first | exact Below.refl _ _ | assumption | refine Below.drew ?_ | refine Below.drewN ?_ _ | refine Below.allocT ?_ (Nat.le_refl _) _ | refine Below.setCell ?_ (by simp <;> omega) _ | refine Below.to ?_ (by assumption) (Nat.le_refl _)))
                  clear hK K hHeld
                  have hHeld := hNext
                  clear hNext
                  (try dsimp only at hHeld)
                  try simp only [Act.put, List.getElem_toArray, List.getElem_cons_succ, List.getElem_cons_zero, List.setIfInBounds_toArray, List.set_cons_zero, List.set_cons_succ]
                  refine wpAnyH_take (i := 6) (v := ?v1_6) rfl (by kernel_rfl) (by kernel_rfl) (by kernel_rfl) (fun _ _ _ h => h) (Or.inl ⟨by rfl, ?y1_6⟩) (by assumption) ?r1_6
                  case' y1_6 => (intro w hSw; (try dsimp only at hSw); obtain ⟨hcS, hfS⟩ := bcell hSw; clear hSw; go_simp; try with_reducible rfl)
                  try simp only [Act.put, List.getElem_toArray, List.getElem_cons_succ, List.getElem_cons_zero, List.setIfInBounds_toArray, List.set_cons_zero, List.set_cons_succ]
                  refine wpAnyH_done (by kernel_rfl) ?_ _
                  have HB3 : Hid (Below wr.heap.size wr w3) := hHeld
                  clear hHeld hB3 k0 k1 k2 k3
                  cases d1 with
                  | false =>
                    go_wp2_with fail
                    go_roundw
                    case rel => exact ⟨k + 1, by omega, by go_num, fun j hj => by
                        rcases Nat.lt_or_ge j k with h | h
                        · exact hz.out j h
                        · rw [show j = k from by omega, HZg.out]; unfold pickA; rw [HD1.out]; rfl, Below.to hB.out HB3.out (Nat.le_refl _)⟩
                    case measure => simp [intOf]; omega
                  | true =>
                    have HB3q : Hid (Below w0.heap.size w0 w3) := Below.to hB.out HB3.out (Nat.le_refl _)
                    clear h0 h1 h2 h3 h4
                    simp only [Bool.not_true]
                    go_wp2_with fail
                    obtain ⟨wy, rfl⟩ : ∃ wy : World, wy = wr := ⟨_, rfl⟩
                    go_loopw [11] (fun i wr => ∃ m : Nat, m ≤ fs.length ∧ i = .int .i64 m ∧ Hid (∀ j, j < m → pickU g n cs (fs.getD j Fu.z) = false) ∧ Hid (Below w0.heap.size w0 wr)) (fun i _ => fs.length - (intOf i).toNat)
                    case atStart => exact ⟨0, Nat.zero_le _, rfl, fun j hj => by omega, HB3q.out⟩
                    case round =>
                      obtain ⟨m, hm, rfl, hzm, hBm⟩ := hrel
                      have HBmq : Hid (Below w.heap.size w wr) := Below.to HB0.out hBm.out (Nat.le_refl _)
                      by_cases hltm : m < fs.length
                      · obtain ⟨u, HZu, hA2, hbw2, u0, u1⟩ := fuAtB HBmq.out HA2.out HC2.out hltm
                        subst hA2
                        obtain ⟨_, _, _, hbw1, h0, h1, h2, h3, h4⟩ := gaAtB HBmq.out (show (some ⟨b, off, none⟩ : Option Addr) = some ⟨b, off, none⟩ ∧ b < w.heap.size ∨ gs.length = 0 from .inl ⟨rfl, hbw⟩) HC.out hlt
                        rename_i g2 hzg2 _
                        have hge : g2 = g := hzg2.out.symm.trans HZg.out
                        subst hge
                        have huo : Hid (u.Ok) := Fu.ok_iff.1 (by rw [← HZu.out]; exact fusB_get HPO.out.fus hltm)
                        obtain ⟨d2, hd2⟩ : ∃ x, holdsB u cs = x := ⟨_, rfl⟩
                        obtain ⟨d3, hd3⟩ : ∃ x, leastI (ungB u g2 n.amb) = x := ⟨_, rfl⟩
                        have HD2 := hide hd2
                        have HD3 := hide hd3
                        clear hd2 hd3
                        obtain ⟨k0, k1, k2, k3, _⟩ := need4 HN0.out hBm.out
                        have hlb1 : b < wr.heap.size := by have := HBmq.out.size; omega
                        have hlb2 : b2 < wr.heap.size := by have := HBmq.out.size; omega
                        have hlw2 : w.heap.size < wr.heap.size := by have := hBm.out.size; omega
                        have hm0 : (0 : Int) ≤ (m : Int) := by omega
                        have hm1 : (m : Int) < (fs.length : Int) := by omega
                        cases d2 with
                        | false =>
                          have HS : Hid (pickU g2 n cs (fs.getD m Fu.z) = false) := by show _ = _; rw [HZu.out]; unfold pickU; rw [HD2.out]; rfl
                          go_wp2_with fail
                          refine wp_region_held_drew (S := (fun w' => Below wr.heap.size wr w')) (by kernel_rfl) ?_ (fun hHeld => ?_)
                          · try dsimp only
                            exact (by repeat (first | exact Below.refl _ _ | assumption | refine Below.drew ?_ | refine Below.drewN ?_ _ | refine Below.allocT ?_ (Nat.le_refl _) _ | refine Below.setCell ?_ (by simp <;> omega) _ | refine Below.to ?_ (by assumption) (Nat.le_refl _)))
                          refine wpAnyH_take (i := 0) (v := ?v2_0) rfl (by kernel_rfl) (by kernel_rfl) (by kernel_rfl) (fun _ _ _ h => h) (Or.inl ⟨by rfl, ?y2_0⟩) (by assumption) ?r2_0
                          case' y2_0 => (intro w hSw; (try dsimp only at hSw); obtain ⟨hcS, hfS⟩ := bcell hSw; clear hSw; go_simp; try with_reducible rfl)
                          try simp only [Act.put, List.getElem_toArray, List.getElem_cons_succ, List.getElem_cons_zero, List.setIfInBounds_toArray, List.set_cons_zero, List.set_cons_succ]
                          refine wpAnyH_take (i := 1) (v := ?v2_1) rfl (by kernel_rfl) (by kernel_rfl) (by kernel_rfl) (fun _ _ _ h => h) (Or.inl ⟨by rfl, ?y2_1⟩) (by assumption) ?r2_1
                          case' y2_1 => (intro w hSw; (try dsimp only at hSw); obtain ⟨hcS, hfS⟩ := bcell hSw; clear hSw; go_simp; try with_reducible rfl)
                          try simp only [Act.put, List.getElem_toArray, List.getElem_cons_succ, List.getElem_cons_zero, List.setIfInBounds_toArray, List.set_cons_zero, List.set_cons_succ]
                          refine wpAnyH_take (i := 2) (v := ?v2_2) rfl (by kernel_rfl) (by kernel_rfl) (by kernel_rfl) (fun _ _ _ h => h) (Or.inl ⟨by rfl, ?y2_2⟩) (by assumption) ?r2_2
                          case' y2_2 => (intro w hSw; (try dsimp only at hSw); obtain ⟨hcS, hfS⟩ := bcell hSw; clear hSw; go_simp; try with_reducible rfl)
                          try simp only [Act.put, List.getElem_toArray, List.getElem_cons_succ, List.getElem_cons_zero, List.setIfInBounds_toArray, List.set_cons_zero, List.set_cons_succ]
                          refine wpAnyH_take (i := 3) (v := ?v2_3) rfl (by kernel_rfl) (by kernel_rfl) (by kernel_rfl) (fun _ _ _ h => h) (Or.inl ⟨by rfl, ?y2_3⟩) (by assumption) ?r2_3
                          case' y2_3 => (intro w hSw; (try dsimp only at hSw); obtain ⟨hcS, hfS⟩ := bcell hSw; clear hSw; go_simp; try with_reducible rfl)
                          try simp only [Act.put, List.getElem_toArray, List.getElem_cons_succ, List.getElem_cons_zero, List.setIfInBounds_toArray, List.set_cons_zero, List.set_cons_succ]
                          refine wpAnyH_take (i := 4) (v := ?v2_4) rfl (by kernel_rfl) (by kernel_rfl) (by kernel_rfl) (fun _ _ _ h => h) (Or.inl ⟨by rfl, ?y2_4⟩) (by assumption) ?r2_4
                          case' y2_4 => (intro w hSw; (try dsimp only at hSw); obtain ⟨hcS, hfS⟩ := bcell hSw; clear hSw; go_simp; try with_reducible rfl)
                          try simp only [Act.put, List.getElem_toArray, List.getElem_cons_succ, List.getElem_cons_zero, List.setIfInBounds_toArray, List.set_cons_zero, List.set_cons_succ]
                          refine wpAnyH_take (i := 5) (v := ?v2_5) rfl (by kernel_rfl) (by kernel_rfl) (by kernel_rfl) (fun _ _ _ h => h) (Or.inl ⟨by rfl, ?y2_5⟩) (by assumption) ?r2_5
                          case' y2_5 => (intro w hSw; (try dsimp only at hSw); obtain ⟨hcS, hfS⟩ := bcell hSw; clear hSw; go_simp; try with_reducible rfl)
                          try simp only [Act.put, List.getElem_toArray, List.getElem_cons_succ, List.getElem_cons_zero, List.setIfInBounds_toArray, List.set_cons_zero, List.set_cons_succ]
                          refine wpAnyH_ready (rs := [6]) (by kernel_rfl) (by simp) ?_
                          refine AllReadyH.cons rfl (fun K hK => ?_) AllReadyH.nil
                          go_simp
                          ((go_at_call 62; refine (rholds_any u _ cs wr.drew huo.out HPO.out.need.cyc ((H.out.below HBmq.out).more HBmq.out.size)).mono ?_; rw [HD2.out]; rintro e w5 ⟨rfl, hB5⟩))
                          (try dsimp only)
                          refine hK.out _ _ ?_ (fun hNext => ?_)
                          · try dsimp only
                            exact (by repeat (first | exact Below.refl _ _ | assumption | refine Below.drew ?_ | refine Below.drewN ?_ _ | refine Below.allocT ?_ (Nat.le_refl _) _ | refine Below.setCell ?_ (by simp <;> omega) _ | refine Below.to ?_ (by assumption) (Nat.le_refl _)))
                          clear hK K hHeld
                          have hHeld := hNext
                          clear hNext
                          (try dsimp only at hHeld)
                          try simp only [Act.put, List.getElem_toArray, List.getElem_cons_succ, List.getElem_cons_zero, List.setIfInBounds_toArray, List.set_cons_zero, List.set_cons_succ]
                          refine wpAnyH_take (i := 7) (v := ?v2_7) rfl (by kernel_rfl) (by kernel_rfl) (by kernel_rfl) (fun _ _ _ h => h) (Or.inl ⟨by rfl, ?y2_7⟩) (by assumption) ?r2_7
                          case' y2_7 => (intro w hSw; (try dsimp only at hSw); obtain ⟨hcS, hfS⟩ := bcell hSw; clear hSw; go_simp; try with_reducible rfl)
                          try simp only [Act.put, List.getElem_toArray, List.getElem_cons_succ, List.getElem_cons_zero, List.setIfInBounds_toArray, List.set_cons_zero, List.set_cons_succ]
                          refine wpAnyH_take (i := 8) (v := undef) rfl (by kernel_rfl) (by kernel_rfl) (by kernel_rfl) (fun _ _ _ h => h) (Or.inr ⟨?w2_8, rfl⟩) (by assumption) ?r2_8
                          case' w2_8 => first | rfl | (simp [Region.wanted, yielded, *]; done)
                          try simp only [Act.put, List.getElem_toArray, List.getElem_cons_succ, List.getElem_cons_zero, List.setIfInBounds_toArray, List.set_cons_zero, List.set_cons_succ]
                          refine wpAnyH_take (i := 9) (v := undef) rfl (by kernel_rfl) (by kernel_rfl) (by kernel_rfl) (fun _ _ _ h => h) (Or.inr ⟨?w2_9, rfl⟩) (by assumption) ?r2_9
                          case' w2_9 => first | rfl | (simp [Region.wanted, yielded, *]; done)
                          try simp only [Act.put, List.getElem_toArray, List.getElem_cons_succ, List.getElem_cons_zero, List.setIfInBounds_toArray, List.set_cons_zero, List.set_cons_succ]
                          refine wpAnyH_take (i := 10) (v := undef) rfl (by kernel_rfl) (by kernel_rfl) (by kernel_rfl) (fun _ _ _ h => h) (Or.inr ⟨?w2_10, rfl⟩) (by assumption) ?r2_10
                          case' w2_10 => first | rfl | (simp [Region.wanted, yielded, *]; done)
                          try simp only [Act.put, List.getElem_toArray, List.getElem_cons_succ, List.getElem_cons_zero, List.setIfInBounds_toArray, List.set_cons_zero, List.set_cons_succ]
                          refine wpAnyH_take (i := 11) (v := undef) rfl (by kernel_rfl) (by kernel_rfl) (by kernel_rfl) (fun _ _ _ h => h) (Or.inr ⟨?w2_11, rfl⟩) (by assumption) ?r2_11
                          case' w2_11 => first | rfl | (simp [Region.wanted, yielded, *]; done)
                          try simp only [Act.put, List.getElem_toArray, List.getElem_cons_succ, List.getElem_cons_zero, List.setIfInBounds_toArray, List.set_cons_zero, List.set_cons_succ]
                          refine wpAnyH_take (i := 12) (v := undef) rfl (by kernel_rfl) (by kernel_rfl) (by kernel_rfl) (fun _ _ _ h => h) (Or.inr ⟨?w2_12, rfl⟩) (by assumption) ?r2_12
                          case' w2_12 => first | rfl | (simp [Region.wanted, yielded, *]; done)
                          try simp only [Act.put, List.getElem_toArray, List.getElem_cons_succ, List.getElem_cons_zero, List.setIfInBounds_toArray, List.set_cons_zero, List.set_cons_succ]
                          refine wpAnyH_take (i := 13) (v := undef) rfl (by kernel_rfl) (by kernel_rfl) (by kernel_rfl) (fun _ _ _ h => h) (Or.inr ⟨?w2_13, rfl⟩) (by assumption) ?r2_13
                          case' w2_13 => first | rfl | (simp [Region.wanted, yielded, *]; done)
                          try simp only [Act.put, List.getElem_toArray, List.getElem_cons_succ, List.getElem_cons_zero, List.setIfInBounds_toArray, List.set_cons_zero, List.set_cons_succ]
                          refine wpAnyH_take (i := 14) (v := undef) rfl (by kernel_rfl) (by kernel_rfl) (by kernel_rfl) (fun _ _ _ h => h) (Or.inr ⟨?w2_14, rfl⟩) (by assumption) ?r2_14
                          case' w2_14 => first | rfl | (simp [Region.wanted, yielded, *]; done)
                          try simp only [Act.put, List.getElem_toArray, List.getElem_cons_succ, List.getElem_cons_zero, List.setIfInBounds_toArray, List.set_cons_zero, List.set_cons_succ]
                          refine wpAnyH_take (i := 15) (v := undef) rfl (by kernel_rfl) (by kernel_rfl) (by kernel_rfl) (fun _ _ _ h => h) (Or.inr ⟨?w2_15, rfl⟩) (by assumption) ?r2_15
                          case' w2_15 => first | rfl | (simp [Region.wanted, yielded, *]; done)
                          try simp only [Act.put, List.getElem_toArray, List.getElem_cons_succ, List.getElem_cons_zero, List.setIfInBounds_toArray, List.set_cons_zero, List.set_cons_succ]
                          refine wpAnyH_take (i := 16) (v := undef) rfl (by kernel_rfl) (by kernel_rfl) (by kernel_rfl) (fun _ _ _ h => h) (Or.inr ⟨?w2_16, rfl⟩) (by assumption) ?r2_16
                          case' w2_16 => first | rfl | (simp [Region.wanted, yielded, *]; done)
                          try simp only [Act.put, List.getElem_toArray, List.getElem_cons_succ, List.getElem_cons_zero, List.setIfInBounds_toArray, List.set_cons_zero, List.set_cons_succ]
                          refine wpAnyH_take (i := 17) (v := undef) rfl (by kernel_rfl) (by kernel_rfl) (by kernel_rfl) (fun _ _ _ h => h) (Or.inr ⟨?w2_17, rfl⟩) (by assumption) ?r2_17
                          case' w2_17 => first | rfl | (simp [Region.wanted, yielded, *]; done)
                          try simp only [Act.put, List.getElem_toArray, List.getElem_cons_succ, List.getElem_cons_zero, List.setIfInBounds_toArray, List.set_cons_zero, List.set_cons_succ]
                          refine wpAnyH_take (i := 18) (v := undef) rfl (by kernel_rfl) (by kernel_rfl) (by kernel_rfl) (fun _ _ _ h => h) (Or.inr ⟨?w2_18, rfl⟩) (by assumption) ?r2_18
                          case' w2_18 => first | rfl | (simp [Region.wanted, yielded, *]; done)
                          try simp only [Act.put, List.getElem_toArray, List.getElem_cons_succ, List.getElem_cons_zero, List.setIfInBounds_toArray, List.set_cons_zero, List.set_cons_succ]
                          refine wpAnyH_take (i := 19) (v := undef) rfl (by kernel_rfl) (by kernel_rfl) (by kernel_rfl) (fun _ _ _ h => h) (Or.inr ⟨?w2_19, rfl⟩) (by assumption) ?r2_19
                          case' w2_19 => first | rfl | (simp [Region.wanted, yielded, *]; done)
                          try simp only [Act.put, List.getElem_toArray, List.getElem_cons_succ, List.getElem_cons_zero, List.setIfInBounds_toArray, List.set_cons_zero, List.set_cons_succ]
                          refine wpAnyH_take (i := 20) (v := ?v2_20) rfl (by kernel_rfl) (by kernel_rfl) (by kernel_rfl) (fun _ _ _ h => h) (Or.inl ⟨by rfl, ?y2_20⟩) (by assumption) ?r2_20
                          case' y2_20 => (intro w hSw; (try dsimp only at hSw); obtain ⟨hcS, hfS⟩ := bcell hSw; clear hSw; go_simp; try with_reducible rfl)
                          try simp only [Act.put, List.getElem_toArray, List.getElem_cons_succ, List.getElem_cons_zero, List.setIfInBounds_toArray, List.set_cons_zero, List.set_cons_succ]
                          refine wpAnyH_done (by kernel_rfl) ?_ _
                          go_wp2_with fail
                          go_roundw
                          case rel => exact ⟨m + 1, by omega, by go_num, fun j hj => by
                              rcases Nat.lt_or_ge j m with h | h
                              · exact hzm.out j h
                              · rw [show j = m from by omega]; exact HS.out, Below.to hBm.out hHeld (Nat.le_refl _)⟩
                          case measure => simp [intOf]; omega
                        | true =>
                          have HS : Hid (pickU g2 n cs (fs.getD m Fu.z) = decide (d3 < 0)) := by show _ = _; rw [HZu.out]; unfold pickU; rw [HD2.out, HD3.out]; rfl
                          go_wp2_with fail
                          refine wp_region_held_drew (S := (fun w' => Below wr.heap.size wr w')) (by kernel_rfl) ?_ (fun hHeld => ?_)
                          · try dsimp only
                            exact (by repeat (first | exact Below.refl _ _ | assumption | refine Below.drew ?_ | refine Below.drewN ?_ _ | refine Below.allocT ?_ (Nat.le_refl _) _ | refine Below.setCell ?_ (by simp <;> omega) _ | refine Below.to ?_ (by assumption) (Nat.le_refl _)))
                          refine wpAnyH_take (i := 0) (v := ?v3_0) rfl (by kernel_rfl) (by kernel_rfl) (by kernel_rfl) (fun _ _ _ h => h) (Or.inl ⟨by rfl, ?y3_0⟩) (by assumption) ?r3_0
                          case' y3_0 => (intro w hSw; (try dsimp only at hSw); obtain ⟨hcS, hfS⟩ := bcell hSw; clear hSw; go_simp; try with_reducible rfl)
                          try simp only [Act.put, List.getElem_toArray, List.getElem_cons_succ, List.getElem_cons_zero, List.setIfInBounds_toArray, List.set_cons_zero, List.set_cons_succ]
                          refine wpAnyH_take (i := 1) (v := ?v3_1) rfl (by kernel_rfl) (by kernel_rfl) (by kernel_rfl) (fun _ _ _ h => h) (Or.inl ⟨by rfl, ?y3_1⟩) (by assumption) ?r3_1
                          case' y3_1 => (intro w hSw; (try dsimp only at hSw); obtain ⟨hcS, hfS⟩ := bcell hSw; clear hSw; go_simp; try with_reducible rfl)
                          try simp only [Act.put, List.getElem_toArray, List.getElem_cons_succ, List.getElem_cons_zero, List.setIfInBounds_toArray, List.set_cons_zero, List.set_cons_succ]
                          refine wpAnyH_take (i := 2) (v := ?v3_2) rfl (by kernel_rfl) (by kernel_rfl) (by kernel_rfl) (fun _ _ _ h => h) (Or.inl ⟨by rfl, ?y3_2⟩) (by assumption) ?r3_2
                          case' y3_2 => (intro w hSw; (try dsimp only at hSw); obtain ⟨hcS, hfS⟩ := bcell hSw; clear hSw; go_simp; try with_reducible rfl)
                          try simp only [Act.put, List.getElem_toArray, List.getElem_cons_succ, List.getElem_cons_zero, List.setIfInBounds_toArray, List.set_cons_zero, List.set_cons_succ]
                          refine wpAnyH_take (i := 3) (v := ?v3_3) rfl (by kernel_rfl) (by kernel_rfl) (by kernel_rfl) (fun _ _ _ h => h) (Or.inl ⟨by rfl, ?y3_3⟩) (by assumption) ?r3_3
                          case' y3_3 => (intro w hSw; (try dsimp only at hSw); obtain ⟨hcS, hfS⟩ := bcell hSw; clear hSw; go_simp; try with_reducible rfl)
                          try simp only [Act.put, List.getElem_toArray, List.getElem_cons_succ, List.getElem_cons_zero, List.setIfInBounds_toArray, List.set_cons_zero, List.set_cons_succ]
                          refine wpAnyH_take (i := 4) (v := ?v3_4) rfl (by kernel_rfl) (by kernel_rfl) (by kernel_rfl) (fun _ _ _ h => h) (Or.inl ⟨by rfl, ?y3_4⟩) (by assumption) ?r3_4
                          case' y3_4 => (intro w hSw; (try dsimp only at hSw); obtain ⟨hcS, hfS⟩ := bcell hSw; clear hSw; go_simp; try with_reducible rfl)
                          try simp only [Act.put, List.getElem_toArray, List.getElem_cons_succ, List.getElem_cons_zero, List.setIfInBounds_toArray, List.set_cons_zero, List.set_cons_succ]
                          refine wpAnyH_take (i := 5) (v := ?v3_5) rfl (by kernel_rfl) (by kernel_rfl) (by kernel_rfl) (fun _ _ _ h => h) (Or.inl ⟨by rfl, ?y3_5⟩) (by assumption) ?r3_5
                          case' y3_5 => (intro w hSw; (try dsimp only at hSw); obtain ⟨hcS, hfS⟩ := bcell hSw; clear hSw; go_simp; try with_reducible rfl)
                          try simp only [Act.put, List.getElem_toArray, List.getElem_cons_succ, List.getElem_cons_zero, List.setIfInBounds_toArray, List.set_cons_zero, List.set_cons_succ]
                          refine wpAnyH_ready (rs := [6]) (by kernel_rfl) (by simp) ?_
                          refine AllReadyH.cons rfl (fun K hK => ?_) AllReadyH.nil
                          go_simp
                          (first | (go_at_call 62; refine (rholds_any u _ cs wr.drew huo.out HPO.out.need.cyc ((H.out.below HBmq.out).more HBmq.out.size)).mono ?_; rw [HD2.out]; rintro e w5 ⟨rfl, hB5⟩) | (go_at_call 71; refine (runguarded_any u g2 n.amb _ huo.out hgo.out HPO.out.need.amb0 HPO.out.need.amb1).mono ?_; rw [HD3.out]; rintro e w6 ⟨rfl, hB6⟩))
                          (try dsimp only)
                          refine hK.out _ _ ?_ (fun hNext => ?_)
                          · try dsimp only
                            exact (by repeat (first | exact Below.refl _ _ | assumption | refine Below.drew ?_ | refine Below.drewN ?_ _ | refine Below.allocT ?_ (Nat.le_refl _) _ | refine Below.setCell ?_ (by simp <;> omega) _ | refine Below.to ?_ (by assumption) (Nat.le_refl _)))
                          clear hK K hHeld
                          have hHeld := hNext
                          clear hNext
                          (try dsimp only at hHeld)
                          try simp only [Act.put, List.getElem_toArray, List.getElem_cons_succ, List.getElem_cons_zero, List.setIfInBounds_toArray, List.set_cons_zero, List.set_cons_succ]
                          refine wpAnyH_take (i := 7) (v := ?v3_7) rfl (by kernel_rfl) (by kernel_rfl) (by kernel_rfl) (fun _ _ _ h => h) (Or.inl ⟨by rfl, ?y3_7⟩) (by assumption) ?r3_7
                          case' y3_7 => (intro w hSw; (try dsimp only at hSw); obtain ⟨hcS, hfS⟩ := bcell hSw; clear hSw; go_simp; try with_reducible rfl)
                          try simp only [Act.put, List.getElem_toArray, List.getElem_cons_succ, List.getElem_cons_zero, List.setIfInBounds_toArray, List.set_cons_zero, List.set_cons_succ]
                          refine wpAnyH_take (i := 8) (v := ?v3_8) rfl (by kernel_rfl) (by kernel_rfl) (by kernel_rfl) (fun _ _ _ h => h) (Or.inl ⟨by rfl, ?y3_8⟩) (by assumption) ?r3_8
                          case' y3_8 => (intro w hSw; (try dsimp only at hSw); obtain ⟨hcS, hfS⟩ := bcell hSw; clear hSw; go_simp; try with_reducible rfl)
                          try simp only [Act.put, List.getElem_toArray, List.getElem_cons_succ, List.getElem_cons_zero, List.setIfInBounds_toArray, List.set_cons_zero, List.set_cons_succ]
                          refine wpAnyH_take (i := 9) (v := ?v3_9) rfl (by kernel_rfl) (by kernel_rfl) (by kernel_rfl) (fun _ _ _ h => h) (Or.inl ⟨by rfl, ?y3_9⟩) (by assumption) ?r3_9
                          case' y3_9 => (intro w hSw; (try dsimp only at hSw); obtain ⟨hcS, hfS⟩ := bcell hSw; clear hSw; go_simp; try with_reducible rfl)
                          try simp only [Act.put, List.getElem_toArray, List.getElem_cons_succ, List.getElem_cons_zero, List.setIfInBounds_toArray, List.set_cons_zero, List.set_cons_succ]
                          refine wpAnyH_take (i := 10) (v := ?v3_10) rfl (by kernel_rfl) (by kernel_rfl) (by kernel_rfl) (fun _ _ _ h => h) (Or.inl ⟨by rfl, ?y3_10⟩) (by assumption) ?r3_10
                          case' y3_10 => (intro w hSw; (try dsimp only at hSw); obtain ⟨hcS, hfS⟩ := bcell hSw; clear hSw; go_simp; try with_reducible rfl)
                          try simp only [Act.put, List.getElem_toArray, List.getElem_cons_succ, List.getElem_cons_zero, List.setIfInBounds_toArray, List.set_cons_zero, List.set_cons_succ]
                          refine wpAnyH_take (i := 11) (v := ?v3_11) rfl (by kernel_rfl) (by kernel_rfl) (by kernel_rfl) (fun _ _ _ h => h) (Or.inl ⟨by rfl, ?y3_11⟩) (by assumption) ?r3_11
                          case' y3_11 => (intro w hSw; (try dsimp only at hSw); obtain ⟨hcS, hfS⟩ := bcell hSw; clear hSw; go_simp; try with_reducible rfl)
                          try simp only [Act.put, List.getElem_toArray, List.getElem_cons_succ, List.getElem_cons_zero, List.setIfInBounds_toArray, List.set_cons_zero, List.set_cons_succ]
                          refine wpAnyH_take (i := 12) (v := ?v3_12) rfl (by kernel_rfl) (by kernel_rfl) (by kernel_rfl) (fun _ _ _ h => h) (Or.inl ⟨by rfl, ?y3_12⟩) (by assumption) ?r3_12
                          case' y3_12 => (intro w hSw; (try dsimp only at hSw); obtain ⟨hcS, hfS⟩ := bcell hSw; clear hSw; go_simp; try with_reducible rfl)
                          try simp only [Act.put, List.getElem_toArray, List.getElem_cons_succ, List.getElem_cons_zero, List.setIfInBounds_toArray, List.set_cons_zero, List.set_cons_succ]
                          refine wpAnyH_take (i := 13) (v := ?v3_13) rfl (by kernel_rfl) (by kernel_rfl) (by kernel_rfl) (fun _ _ _ h => h) (Or.inl ⟨by rfl, ?y3_13⟩) (by assumption) ?r3_13
                          case' y3_13 => (intro w hSw; (try dsimp only at hSw); obtain ⟨hcS, hfS⟩ := bcell hSw; clear hSw; go_simp; try with_reducible rfl)
                          try simp only [Act.put, List.getElem_toArray, List.getElem_cons_succ, List.getElem_cons_zero, List.setIfInBounds_toArray, List.set_cons_zero, List.set_cons_succ]
                          refine wpAnyH_take (i := 14) (v := ?v3_14) rfl (by kernel_rfl) (by kernel_rfl) (by kernel_rfl) (fun _ _ _ h => h) (Or.inl ⟨by rfl, ?y3_14⟩) (by assumption) ?r3_14
                          case' y3_14 => (intro w hSw; (try dsimp only at hSw); obtain ⟨hcS, hfS⟩ := bcell hSw; clear hSw; go_simp; try with_reducible rfl)
                          try simp only [Act.put, List.getElem_toArray, List.getElem_cons_succ, List.getElem_cons_zero, List.setIfInBounds_toArray, List.set_cons_zero, List.set_cons_succ]
                          refine wpAnyH_take (i := 15) (v := ?v3_15) rfl (by kernel_rfl) (by kernel_rfl) (by kernel_rfl) (fun _ _ _ h => h) (Or.inl ⟨by rfl, ?y3_15⟩) (by assumption) ?r3_15
                          case' y3_15 => (intro w hSw; (try dsimp only at hSw); obtain ⟨hcS, hfS⟩ := bcell hSw; clear hSw; go_simp; try with_reducible rfl)
                          try simp only [Act.put, List.getElem_toArray, List.getElem_cons_succ, List.getElem_cons_zero, List.setIfInBounds_toArray, List.set_cons_zero, List.set_cons_succ]
                          refine wpAnyH_take (i := 16) (v := ?v3_16) rfl (by kernel_rfl) (by kernel_rfl) (by kernel_rfl) (fun _ _ _ h => h) (Or.inl ⟨by rfl, ?y3_16⟩) (by assumption) ?r3_16
                          case' y3_16 => (intro w hSw; (try dsimp only at hSw); obtain ⟨hcS, hfS⟩ := bcell hSw; clear hSw; go_simp; try with_reducible rfl)
                          try simp only [Act.put, List.getElem_toArray, List.getElem_cons_succ, List.getElem_cons_zero, List.setIfInBounds_toArray, List.set_cons_zero, List.set_cons_succ]
                          refine wpAnyH_take (i := 17) (v := ?v3_17) rfl (by kernel_rfl) (by kernel_rfl) (by kernel_rfl) (fun _ _ _ h => h) (Or.inl ⟨by rfl, ?y3_17⟩) (by assumption) ?r3_17
                          case' y3_17 => (intro w hSw; (try dsimp only at hSw); obtain ⟨hcS, hfS⟩ := bcell hSw; clear hSw; go_simp; try with_reducible rfl)
                          try simp only [Act.put, List.getElem_toArray, List.getElem_cons_succ, List.getElem_cons_zero, List.setIfInBounds_toArray, List.set_cons_zero, List.set_cons_succ]
                          refine wpAnyH_ready (rs := [18]) (by kernel_rfl) (by simp) ?_
                          refine AllReadyH.cons rfl (fun K hK => ?_) AllReadyH.nil
                          go_simp
                          (first | (go_at_call 62; refine (rholds_any u _ cs wr.drew huo.out HPO.out.need.cyc ((H.out.below HBmq.out).more HBmq.out.size)).mono ?_; rw [HD2.out]; rintro e w5 ⟨rfl, hB5⟩) | (go_at_call 71; refine (runguarded_any u g2 n.amb _ huo.out hgo.out HPO.out.need.amb0 HPO.out.need.amb1).mono ?_; rw [HD3.out]; rintro e w6 ⟨rfl, hB6⟩))
                          (try dsimp only)
                          refine hK.out _ _ ?_ (fun hNext => ?_)
                          · try dsimp only
                            exact (by repeat (first | exact Below.refl _ _ | assumption | refine Below.drew ?_ | refine Below.drewN ?_ _ | refine Below.allocT ?_ (Nat.le_refl _) _ | refine Below.setCell ?_ (by simp <;> omega) _ | refine Below.to ?_ (by assumption) (Nat.le_refl _)))
                          clear hK K hHeld
                          have hHeld := hNext
                          clear hNext
                          (try dsimp only at hHeld)
                          try simp only [Act.put, List.getElem_toArray, List.getElem_cons_succ, List.getElem_cons_zero, List.setIfInBounds_toArray, List.set_cons_zero, List.set_cons_succ]
                          refine wpAnyH_take (i := 19) (v := ?v3_19) rfl (by kernel_rfl) (by kernel_rfl) (by kernel_rfl) (fun _ _ _ h => h) (Or.inl ⟨by rfl, ?y3_19⟩) (by assumption) ?r3_19
                          case' y3_19 => (intro w hSw; (try dsimp only at hSw); obtain ⟨hcS, hfS⟩ := bcell hSw; clear hSw; go_simp; try with_reducible rfl)
                          try simp only [Act.put, List.getElem_toArray, List.getElem_cons_succ, List.getElem_cons_zero, List.setIfInBounds_toArray, List.set_cons_zero, List.set_cons_succ]
                          refine wpAnyH_take (i := 20) (v := ?v3_20) rfl (by kernel_rfl) (by kernel_rfl) (by kernel_rfl) (fun _ _ _ h => h) (Or.inl ⟨by rfl, ?y3_20⟩) (by assumption) ?r3_20
                          case' y3_20 => (intro w hSw; (try dsimp only at hSw); obtain ⟨hcS, hfS⟩ := bcell hSw; clear hSw; go_simp; try with_reducible rfl)
                          try simp only [Act.put, List.getElem_toArray, List.getElem_cons_succ, List.getElem_cons_zero, List.setIfInBounds_toArray, List.set_cons_zero, List.set_cons_succ]
                          refine wpAnyH_done (by kernel_rfl) ?_ _
                          clear h0 h1 h2 h3 h4 u0 u1 k0 k1 k2 k3
                          by_cases hd : d3 < 0
                          · have hpk : pickK fs n cs g2 = m := idxI_at _ Fu.z fs m hzm.out hltm (by rw [HS.out]; simpa using hd)
                            have hpg : pickG gs fs n cs = k := idxI_at _ Ga.z gs k hz.out hlt (by rw [HZg.out]; unfold pickA; rw [HD1.out, hpk]; simp)
                            have HP := hide (And.intro (pick_some HPO.out hpg) hpk)
                            clear hpg hpk
                            go_wp2_with fail
                            go_ret3
                            exact ⟨by rw [HP.out.1.1, HP.out.1.2.1, HP.out.1.2.2, HZg.out, HP.out.2]; first | rfl | simp, Below.to HBmq.out hHeld (Nat.le_refl _)⟩
                          · go_wp2_with fail
                            go_roundw
                            case rel => exact ⟨m + 1, by omega, by go_num, fun j hj => by
                                rcases Nat.lt_or_ge j m with h | h
                                · exact hzm.out j h
                                · rw [show j = m from by omega, HS.out]; simpa using hd, Below.to hBm.out hHeld (Nat.le_refl _)⟩
                            case measure => simp [intOf]; omega
                      · have hpk : pickK fs n cs g = -1 := idxI_none _ Fu.z fs (fun j hj => hzm.out j (by omega))
                        have HPK := hide hpk
                        clear hpk
                        go_wp2_with fail
                        go_roundw
                        case rel => exact ⟨k + 1, by omega, by go_num, fun j hj => by
                            rcases Nat.lt_or_ge j k with h | h
                            · exact hz.out j h
                            · rw [show j = k from by omega, HZg.out]; unfold pickA; rw [HPK.out]; simp, hBm.out⟩
                        case measure => simp [intOf]; omega
                · have hpg : pickG gs fs n cs = -1 := idxI_none _ Ga.z gs (fun j hj => hz.out j (by omega))
                  have HP := hide (pick_none HPO.out (by rw [hpg]; omega))
                  clear hpg
                  go_wp2_with fail
                  go_ret3
                  exact ⟨by rw [HP.out.1, HP.out.2.1, HP.out.2.2]; first | rfl | simp, HBq.out⟩
end Go.Proofs.Ytejjjijaojkohaa

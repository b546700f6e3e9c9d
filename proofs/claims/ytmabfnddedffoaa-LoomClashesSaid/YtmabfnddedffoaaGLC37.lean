/- Part 37 of this claim's texts: walks and plain laws. -/
import Derived.Test.YtmabfnddedffoaaRows
import Derived.Test.YtmabfnddedffoaaGLC36
import Derived.Deep.RegionHeld3
import Derived.Deep.DrawnRows
import Derived.Test.YtmabfnddedffoaaGLC3
import Derived.Test.YtmabfnddedffoaaGLC35
import Derived.Test.YtmabfnddedffoaaGLC24
import Derived.Laws.EntriesVeiled
/- The elder program's clashes: walk. -/
namespace Go.Proofs.Ytmabfnddedffoaa
open Go.RowKit
set_option linter.unusedVariables false
set_option linter.unusedSimpArgs false
set_option maxRecDepth 100000 in
set_option maxHeartbeats 8000000 in
theorem rClashes_any (A0 A1 A2 A3 A4 A5 : Option Addr) (q0 q1 q2 q3 q4 q5 : Nat) (l : Lo) (w : World) (hs : SizedL l) (h : LoA w w.heap.size A0 A1 A2 A3 A4 A5 q0 q1 q2 q3 q4 q5 l) (hN : l.m.opts.length ≤ 12) :
    Calls Try.prog 44 #[.agg #[.slice A0 l.m.opts.length q0, .slice A1 l.m.rules.length q1, .slice A2 l.ss.length q2, .slice A3 l.us.length q3, .slice A4 l.ps.length q4, .slice A5 l.ws.length q5]] w (PrsP (claE l) l.err w) := by
  obtain ⟨i0, hi0, iz0, iz1, iz2⟩ := info_parts infoPair
  have H := hide h
  have HS := hide hs
  obtain ⟨z, hz⟩ : ∃ z, l.err = z := ⟨_, rfl⟩
  obtain ⟨K0, hK0⟩ : ∃ K, claE l = K := ⟨_, rfl⟩
  rw [hz, hK0]
  have HZ := hide hz
  clear h hs
  by_cases hz0 : z = 0
  case neg =>
    have hK : K0 = [] := by rw [← hK0]; unfold claE; rw [if_neg (by rw [hz]; exact hz0)]
    subst hK
    have hz1 : (z != 0) = true := by simpa using hz0
    clear hz hz0 hK0
    go_enter Try.func44, Try.ntmps44
    go_upto_region 1 with (fail)
    generalize hw0 : World.alloc _ _ = w0
    obtain ⟨hb0, hB0, hs0⟩ := alloc1 hw0
    have c0 := cellOf hb0 0; have c1 := cellOf hb0 1; have c2 := cellOf hb0 2; have c3 := cellOf hb0 3; have c4 := cellOf hb0 4; have c5 := cellOf hb0 5
    have hlb := box_lt hb0
    have HB0 := hide hB0
    clear hw0 hb0 hB0 hs0
    go_wp2_with (go_at_call 18; refine (rCheck_any A0 A1 A2 A3 A4 A5 q0 q1 q2 q3 q4 q5 l _ HS.out (H.out.up HB0.out)).mono ?_; rw [HZ.out]; rintro e w1 ⟨rfl, hB1⟩; have HB1 := hide (Below.to HB0.out hB1 (Nat.le_refl _)); clear hB1 c0 c1 c2 c3 c4 c5 hlb)
    go_ret2
    exact ⟨_, rfl, Sl.nil _ _ _ _, HB1.out⟩
  case pos =>
  subst hz0
  have ok := Lo.err_ok hz
  have hK : K0 = claO l l.ws.length := by rw [← hK0]; unfold claE; rw [if_pos hz]
  subst hK
  have OK := hide ok
  have w60 := ok.w60
  have HSM := hide (SizedL.m HS.out)
  clear hz hK0 ok
  go_enter Try.func44, Try.ntmps44
  go_upto_region 1 with (fail)
  generalize hw0 : World.alloc _ _ = w0
  obtain ⟨hb0, hB0, hs0⟩ := alloc1 hw0
  have c0 := cellOf hb0 0; have c1 := cellOf hb0 1; have c2 := cellOf hb0 2; have c3 := cellOf hb0 3; have c4 := cellOf hb0 4; have c5 := cellOf hb0 5
  have hlb := box_lt hb0
  have HB0 := hide hB0
  have HL0 : Hid (LoBox w0 w.heap.size A0 A1 A2 A3 A4 A5 q0 q1 q2 q3 q4 q5 l) := hb0
  clear hw0 hb0 hB0 hs0
  go_wp2_with (go_at_call 18; refine (rCheck_any A0 A1 A2 A3 A4 A5 q0 q1 q2 q3 q4 q5 l _ HS.out (H.out.up HB0.out)).mono ?_; rw [HZ.out]; rintro e w1 ⟨rfl, hB1⟩; have HL1 := hide (HL0.out.to hB1); have HB1 := hide (Below.to HB0.out hB1 (Nat.le_refl _)); clear hB1 c0 c1 c2 c3 c4 c5 hlb)
  go_loopw [5, 6, 7, 8, 9, 10] (fun o i _ _ _ _ wr => ∃ (p : Nat) (A : Option Addr) (cap : Nat) (K : List (Nat × Nat)), i = .int .i64 p ∧ o = .slice A K.length cap ∧ p ≤ l.ws.length ∧ Hid (claO l p = K) ∧ Hid (ClS w1 wr 76 (.slice A K.length cap) K)) (fun _ i _ _ _ _ _ => l.ws.length - (intOf i).toNat)
  case atStart => exact ⟨0, none, 0, [], rfl, rfl, Nat.zero_le _, rfl, ClS.start _ _⟩
  case round =>
    obtain ⟨p, Ao, cap, K, rfl, rfl, hp, HK, R⟩ := hrel
    have d0 := cellOf (HL1.out.to R.out.below) 0; have d1 := cellOf (HL1.out.to R.out.below) 1; have d2 := cellOf (HL1.out.to R.out.below) 2; have d3 := cellOf (HL1.out.to R.out.below) 3; have d4 := cellOf (HL1.out.to R.out.below) 4; have d5 := cellOf (HL1.out.to R.out.below) 5
    have ld := box_lt (HL1.out.to R.out.below)
    by_cases hpl : p < l.ws.length
    · have hKl : K.length ≤ p * l.ws.length := by rw [← HK.out]; exact claO_len l p
      have hKl2 : K.length ≤ 3600 := Nat.le_trans hKl (Nat.mul_le_mul (by omega : p ≤ 60) (by omega : l.ws.length ≤ 60))
      obtain ⟨bw, offw, x, Af, qf, HX, rfl, hbw, hq5, HFO, e0, e1, e2, e3, e4, e5, e6⟩ := (H.out.up HB1.out).wi hpl
      have hxl := SizedL.form HS.out hpl
      rw [HX.out] at hxl
      have ip : (p : Int) < (l.ws.length : Int) := by omega
      have iq : (l.ws.length : Int) ≤ (q5 : Int) := by omega
      have HBW := hide hbw
      have HE := hide (And.intro e0 (And.intro e1 (And.intro e2 (And.intro e3 (And.intro e4 (And.intro e5 e6))))))
      clear hKl e0 e1 e2 e3 e4 e5 e6 hbw
      go_wp2_with fail
      clear d0 d1 d2 d3 d4 d5 ld
      go_loopw [5, 7, 8, 9, 10] (fun o i _ _ _ wr => ∃ (k : Nat) (A : Option Addr) (cap : Nat) (K' : List (Nat × Nat)), i = .int .i64 k ∧ o = .slice A K'.length cap ∧ p < k ∧ k ≤ l.ws.length ∧ K'.length ≤ 3600 + k ∧ Hid (K ++ claI l p k = K') ∧ Hid (ClS w1 wr 76 (.slice A K'.length cap) K')) (fun _ i _ _ _ _ => l.ws.length - (intOf i).toNat)
      case atStart => exact ⟨p + 1, Ao, cap, K, by go_num, rfl, by omega, by omega, by omega, by rw [claI_start, List.append_nil]; rfl, R.out⟩
      case round =>
        clear R
        obtain ⟨k, A', cap', K', rfl, rfl, hpk, hk, hKl', HK', R⟩ := hrel
        have HLr := hide (HL1.out.to R.out.below)
        have d0 := cellOf HLr.out 0; have d1 := cellOf HLr.out 1; have d2 := cellOf HLr.out 2; have d3 := cellOf HLr.out 3; have d4 := cellOf HLr.out 4; have d5 := cellOf HLr.out 5
        have ld := box_lt HLr.out
        by_cases hkl : k < l.ws.length
        · obtain ⟨bv, offv, y, Ag, qg, HY, he5, hbv, hq5', HFY, e0, e1, e2, e3, e4, e5, e6⟩ := (H.out.up HB1.out).wi hkl
          injection he5 with he5
          injection he5 with he5a he5b he5c
          subst he5a he5b
          have hyl := SizedL.form HS.out hkl
          rw [HY.out] at hyl
          have lbw : bw < wr.heap.size := Nat.lt_of_lt_of_le HBW.out R.out.below.size
          have z0 := (R.out.below.cell (p := ⟨bw, offw + k * 7, none⟩) HBW.out).trans e0
          have z1 := (R.out.below.cell (p := ⟨bw, offw + k * 7 + 1, none⟩) HBW.out).trans e1
          have z2 := (R.out.below.cell (p := ⟨bw, offw + k * 7 + 2, none⟩) HBW.out).trans e2
          have z3 := (R.out.below.cell (p := ⟨bw, offw + k * 7 + 3, none⟩) HBW.out).trans e3
          have z4 := (R.out.below.cell (p := ⟨bw, offw + k * 7 + 4, none⟩) HBW.out).trans e4
          have z5 := (R.out.below.cell (p := ⟨bw, offw + k * 7 + 5, none⟩) HBW.out).trans e5
          have z6 := (R.out.below.cell (p := ⟨bw, offw + k * 7 + 6, none⟩) HBW.out).trans e6
          have y0 := (R.out.below.cell (p := ⟨bw, offw + p * 7, none⟩) HBW.out).trans HE.out.1
          have y1 := (R.out.below.cell (p := ⟨bw, offw + p * 7 + 1, none⟩) HBW.out).trans HE.out.2.1
          have y2 := (R.out.below.cell (p := ⟨bw, offw + p * 7 + 2, none⟩) HBW.out).trans HE.out.2.2.1
          have y3 := (R.out.below.cell (p := ⟨bw, offw + p * 7 + 3, none⟩) HBW.out).trans HE.out.2.2.2.1
          have y4 := (R.out.below.cell (p := ⟨bw, offw + p * 7 + 4, none⟩) HBW.out).trans HE.out.2.2.2.2.1
          have y5 := (R.out.below.cell (p := ⟨bw, offw + p * 7 + 5, none⟩) HBW.out).trans HE.out.2.2.2.2.2.1
          have y6 := (R.out.below.cell (p := ⟨bw, offw + p * 7 + 6, none⟩) HBW.out).trans HE.out.2.2.2.2.2.2
          have ik : (k : Int) < (l.ws.length : Int) := by omega
          obtain ⟨sh, hsh⟩ : ∃ b, sharB x y = b := ⟨_, rfl⟩
          obtain ⟨c, hc⟩ : ∃ c, meeB l.m [x.form, y.form] = c := ⟨_, rfl⟩
          have hcl : claB l p k = (sh && c) := by unfold claB; rw [HX.out, HY.out, hsh, hc]
          have HC := hide hc
          have HCL := hide hcl
          have HSH := hide hsh
          have HEY := hide (And.intro e6 HBW.out)
          clear e0 e1 e2 e3 e4 e5 e6 hbv he5c hq5' hsh hc hcl
          go_upto_region 11 with (fail)
          refine wp_region_held_drew (S := (fun w' => Below wr.heap.size wr w')) (by kernel_rfl) ?_ (fun hHeld => ?_)
          · try dsimp only
            exact (by repeat (first | exact Below.refl _ _ | assumption | refine Below.drew ?_ | refine Below.drewN ?_ _ | refine Below.allocT ?_ (Nat.le_refl _) _ | refine Below.setCell ?_ (by simp <;> omega) _ | refine Below.to ?_ (by assumption) (Nat.le_refl _)))
          refine zT 0 rfl ?_
          try simp only [zX]
          refine zT 1 rfl ?_
          try simp only [zX]
          refine zT 2 rfl ?_
          try simp only [zX]
          refine zT 3 rfl ?_
          try simp only [zX]
          refine zT 4 rfl ?_
          try simp only [zX]
          refine zT 5 rfl ?_
          try simp only [zX]
          refine zT 6 rfl ?_
          try simp only [zX]
          refine zT 7 rfl ?_
          try simp only [zX]
          refine zT 8 rfl ?_
          try simp only [zX]
          refine zT 9 rfl ?_
          try simp only [zX]
          refine wpAnyH_ready (rs := [10]) (by kernel_rfl) (by simp) ?_
          refine AllReadyH.cons rfl (fun K hK => ?_) AllReadyH.nil
          go_simp
          ((go_at_call 123; refine (share_any x y Af Ag _ _ qf qg _ sh HSH.out).mono ?_; rintro e w5 ⟨rfl, hB5⟩))
          (try dsimp only)
          refine hK.out _ _ ?_ (fun hNext => ?_)
          · try dsimp only
            exact (by repeat (first | exact Below.refl _ _ | assumption | refine Below.drew ?_ | refine Below.drewN ?_ _ | refine Below.allocT ?_ (Nat.le_refl _) _ | refine Below.setCell ?_ (by simp <;> omega) _ | refine Below.to ?_ (by assumption) (Nat.le_refl _)))
          clear hK K hHeld
          have hHeld := hNext
          clear hNext
          (try dsimp only at hHeld)
          try simp only [zX]
          refine zT 11 rfl ?_
          try simp only [zX]
          refine wpAnyH_done (by kernel_rfl) ?_ _
          have R5 := hide (R.out.to hHeld)
          clear hHeld d0 d1 d2 d3 d4 d5 ld z0 z1 z2 z3 z4 z5 z6 y0 y1 y2 y3 y4 y5 y6 lbw R HLr
          cases sh with
          | false =>
            have HST : Hid (claB l p k = false) := by show _ = _; rw [HCL.out]; simp
            go_wp2_with fail
            go_roundw
            case rel => exact ⟨k + 1, A', cap', K', by go_num, rfl, by omega, by omega, by omega, by rw [claI_no hpk HST.out]; exact HK'.out, R5.out⟩
            case measure => simp [intOf]; omega
          | true =>
            have hfx := HFO.out
            have hfy := HFY.out
            have HF2 := hide (And.intro (Ints.more (Ints.below hfx R5.out.below) R5.out.below.size) (Ints.more (Ints.below hfy R5.out.below) R5.out.below.size))
            have HH5 := hide (H.out.up (Below.to HB1.out R5.out.below (Nat.le_refl _)))
            have d0 := cellOf (HL1.out.to R5.out.below) 0; have d1 := cellOf (HL1.out.to R5.out.below) 1; have d2 := cellOf (HL1.out.to R5.out.below) 2; have d3 := cellOf (HL1.out.to R5.out.below) 3; have d4 := cellOf (HL1.out.to R5.out.below) 4; have d5 := cellOf (HL1.out.to R5.out.below) 5
            have ld := box_lt (HL1.out.to R5.out.below)
            have lbw : bw < w5.heap.size := Nat.lt_of_lt_of_le HBW.out R5.out.below.size
            have z6 := (R5.out.below.cell (p := ⟨bw, offw + k * 7 + 6, none⟩) HBW.out).trans HEY.out.1
            have y6 := (R5.out.below.cell (p := ⟨bw, offw + p * 7 + 6, none⟩) HBW.out).trans HE.out.2.2.2.2.2.2
            have HST : Hid (claB l p k = c) := by show _ = _; rw [HCL.out]; simp
            clear hfx hfy
            go_upto_region 12 with (fail)
            refine wp_region_held_drew (S := (fun w' => Below w5.heap.size w5 w')) (by kernel_rfl) ?_ (fun hHeld => ?_)
            · try dsimp only
              exact (by repeat (first | exact Below.refl _ _ | assumption | refine Below.drew ?_ | refine Below.drewN ?_ _ | refine Below.allocT ?_ (Nat.le_refl _) _ | refine Below.setCell ?_ (by simp <;> omega) _ | refine Below.to ?_ (by assumption) (Nat.le_refl _)))
            refine zT 0 rfl ?_
            try simp only [zX]
            refine zT 1 rfl ?_
            try simp only [zX]
            refine zT 2 rfl ?_
            try simp only [zX]
            refine zT 3 rfl ?_
            try simp only [zX]
            refine zT 4 rfl ?_
            try simp only [zX]
            refine zT 5 rfl ?_
            try simp only [zX]
            refine zT 6 rfl ?_
            try simp only [zX]
            refine zT 7 rfl ?_
            try simp only [zX]
            refine zT 8 rfl ?_
            try simp only [zX]
            refine zT 9 rfl ?_
            try simp only [zX]
            refine zT 10 rfl ?_
            try simp only [zX]
            refine zT 11 rfl ?_
            try simp only [zX]
            refine zT 12 rfl ?_
            try simp only [zX]
            refine zT 13 rfl ?_
            try simp only [zX]
            refine wpAnyH_ready (rs := [14]) (by kernel_rfl) (by simp) ?_
            refine AllReadyH.cons rfl (fun K hK => ?_) AllReadyH.nil
            go_simp
            refine hK.out _ _ ?_ (fun hNext => ?_)
            · try dsimp only
              exact (by repeat (first | exact Below.refl _ _ | assumption | refine Below.drew ?_ | refine Below.drewN ?_ _ | refine Below.allocT ?_ (Nat.le_refl _) _ | refine Below.setCell ?_ (by simp <;> omega) _ | refine Below.to ?_ (by assumption) (Nat.le_refl _)))
            clear hK K hHeld
            have hHeld := hNext
            clear hNext
            (try dsimp only at hHeld)
            try simp only [zX]
            refine wpAnyH_ready (rs := [15]) (by kernel_rfl) (by simp) ?_
            refine AllReadyH.cons rfl (fun K hK => ?_) AllReadyH.nil
            go_simp
            ((go_at_call 124; generalize hw9 : World.alloc _ _ = w9 at hHeld ⊢; obtain ⟨hb9', hB9', hs9⟩ := alloc1 hw9; clear hw9 hs9; have hB9 : Below w5.heap.size w5 w9.drew := Below.drew hB9'; have hb9 : w9.drew.heap[w5.heap.size]? = _ := hb9'; clear hB9' hb9'; generalize World.drew w9 = w8 at hHeld hB9 hb9 ⊢; refine (rMeets_any l.m [x.form, y.form] _ _ _ _ HSM.out (sized_two hxl hyl) (HH5.out.up hB9).m (forms_two hb9 (box_lt hb9) (Ints.up HF2.out.1 hB9) (Ints.up HF2.out.2 hB9)) (fun _ => hN)).mono ?_; rw [HC.out]; rintro e w6 ⟨v6, rfl, hv6, hB6⟩))
            (try dsimp only)
            refine hK.out _ _ ?_ (fun hNext => ?_)
            · try dsimp only
              exact (by repeat (first | exact Below.refl _ _ | assumption | refine Below.drew ?_ | refine Below.drewN ?_ _ | refine Below.allocT ?_ (Nat.le_refl _) _ | refine Below.setCell ?_ (by simp <;> omega) _ | refine Below.to ?_ (by assumption) (Nat.le_refl _)))
            clear hK K hHeld
            have hHeld := hNext
            clear hNext
            (try dsimp only at hHeld)
            try simp only [zX]
            refine zT 16 rfl ?_
            try simp only [zX]
            refine zT 17 rfl ?_
            try simp only [zX]
            refine zT 18 rfl ?_
            try simp only [zX]
            refine zT 19 rfl ?_
            try simp only [zX]
            refine zT 20 rfl ?_
            try simp only [zX]
            refine zT 21 rfl ?_
            try simp only [zX]
            refine zT 22 rfl ?_
            try simp only [zX]
            refine wpAnyH_done (by kernel_rfl) ?_ _
            have R6 := hide (R5.out.to hHeld)
            clear hHeld d0 d1 d2 d3 d4 d5 ld lbw z6 y6 HH5 HF2 R5
            have hKb : K'.length ≤ 3700 := by omega
            cases c with
            | false =>
              go_wp2_with fail
              go_roundw
              case rel => exact ⟨k + 1, A', cap', K', by go_num, rfl, by omega, by omega, by omega, by rw [claI_no hpk HST.out]; exact HK'.out, R6.out⟩
              case measure => simp [intOf]; omega
            | true =>
              have hBw := R6.out.below.size
              go_wp2_with (at_builtin; go_must (refine wpList_append_own_at _ rfl (.tmp 65) (.tmp 69) _ rfl (w1.heap.size) 76 i0 _ 2 16 Try.underlying69 hi0 iz0 iz1 iz2 rfl (by omega) _ _ _ rfl ((R6.out.own).alloc _) ⟨w6.heap.size, 0, none⟩ 1 1 [.int .i64 (p : Nat), .int .i64 (k : Nat)] rfl rfl (World.news_of_block (heap_alloc_new w6 _)) (by simp [Value.oneCell']) (by have h1 := hKb; unfold maxLen; omega) (by have h1 := hKb; omega) (by have h1 := hBw; simp; omega) ?_); intro v1 w3 hown1 hg1 _ hat1; obtain ⟨A6, cap6, hv6⟩ := owns_form hown1; subst hv6; have R7 := hide (R6.out.push hown1 hg1); clear hown1 hg1 hat1)
              go_roundw
              case rel => exact ⟨k + 1, A6, cap6, K' ++ [(p, k)], by go_num, by rw [List.length_append, List.length_singleton], by omega, by omega, by rw [List.length_append, List.length_singleton]; omega, by rw [claI_yes hpk HST.out, ← List.append_assoc, HK'.out]; rfl, by rw [List.length_append, List.length_singleton]; exact R7.out⟩
              case measure => simp [intOf]; omega
        · have hke : k = l.ws.length := by omega
          subst hke
          go_wp2_with fail
          clear d0 d1 d2 d3 d4 d5 ld
          go_roundw
          case rel => exact ⟨p + 1, A', cap', K', by go_num, rfl, by omega, by rw [claO_next, HK.out]; exact HK'.out, R.out⟩
          case measure => simp [intOf]; omega
    · have hpe : p = l.ws.length := by omega
      subst hpe
      go_wp2_with fail
      go_ret2
      exact ⟨_, rfl, by rw [HK.out]; exact R.out.prs, Below.to HB1.out R.out.below (Nat.le_refl _)⟩
end Go.Proofs.Ytmabfnddedffoaa
/- The program's search for a way: its lists and what its closure has captured. -/
namespace Go.Proofs.Ytmabfnddedffoaa
open Go.RowKit
set_option linter.unusedVariables false
set_option linter.unusedSimpArgs false
/-- Numbers as values. -/
def nvL (S : List Nat) : List Value := S.map fun (n : Nat) => Value.int .i64 n
theorem nvL_snoc (S : List Nat) (k : Nat) : nvL (S ++ [k]) = nvL S ++ [.int .i64 k] := by simp [nvL]
/-- The closure of the search, its lists and what it has captured; the blocks lie from n on. -/
structure WyAt (w0 w : World) (n : Nat) (A0 A1 A2 A3 A4 A5 : Option Addr) (q0 q1 q2 q3 q4 q5 : Nat) (l : Lo) (b : Nat) (sv rv : Value) (S R : List Nat) : Prop where
  below : Below n w0 w
  box : LoBox w n A0 A1 A2 A3 A4 A5 q0 q1 q2 q3 q4 q5 l
  tb : w.heap[n + 1]? = some (.cells #[.int .i64 b] 3 (0, 0))
  s : w.heap[n + 2]? = some (.cells #[sv] 41 (0, 0))
  r : w.heap[n + 3]? = some (.cells #[rv] 41 (0, 0))
  v : w.heap[n + 4]? = some (.cells #[.func (.func 145) #[] #[.pointer (some ⟨n + 2, 0, none⟩), .pointer (some ⟨n + 1, 0, none⟩), .pointer (some ⟨n, 0, none⟩), .pointer (some ⟨n + 3, 0, none⟩), .pointer (some ⟨n + 4, 0, none⟩)]] 154 (0, 0))
  sr : w.ownsRow (n + 5) 3 1 sv S.length (nvL S)
  rr : w.ownsRow (n + 5) 3 1 rv R.length (nvL R)
  ne : ∀ g, sv.ownBlock = some g → rv.ownBlock ≠ some g
  n0 : n = w0.heap.size
section
variable {w0 w w' : World} {n b : Nat} {A0 A1 A2 A3 A4 A5 : Option Addr} {q0 q1 q2 q3 q4 q5 : Nat} {l : Lo} {sv rv v1 : Value} {S R : List Nat} {o : Obj} {a : Nat}
theorem WyAt.size (h : WyAt w0 w n A0 A1 A2 A3 A4 A5 q0 q1 q2 q3 q4 q5 l b sv rv S R) : n + 5 ≤ w.heap.size := by
  have := box_lt h.v
  omega
theorem WyAt.up (h : WyAt w0 w n A0 A1 A2 A3 A4 A5 q0 q1 q2 q3 q4 q5 l b sv rv S R) (hb : Below w.heap.size w w') : WyAt w0 w' n A0 A1 A2 A3 A4 A5 q0 q1 q2 q3 q4 q5 l b sv rv S R :=
  ⟨Below.to h.below hb (by have := h.size; have := h.n0; omega), box_to h.box hb, box_to h.tb hb, box_to h.s hb, box_to h.r hb, box_to h.v hb, owns_below h.sr hb, owns_below h.rr hb, h.ne, h.n0⟩
theorem WyAt.snoS (h : WyAt w0 w n A0 A1 A2 A3 A4 A5 q0 q1 q2 q3 q4 q5 l b sv rv S R) (hown : w'.ownsRow (n + 5) 3 1 v1 (S.length + 1) (nvL S ++ [.int .i64 a])) (hg : (w.alloc o).grownBy w' sv.ownBlock) (hat : v1.ownBlock = sv.ownBlock ∨ v1.ownBlock = some (w.alloc o).heap.size) :
    WyAt w0 (w'.setCell ⟨n + 2, 0, none⟩ v1) n A0 A1 A2 A3 A4 A5 q0 q1 q2 q3 q4 q5 l b v1 rv (S ++ [a]) R := by
  have hz := h.size
  have hk : ∀ k, k < w.heap.size → sv.ownBlock ≠ some k → k ≠ n + 2 → (w'.setCell ⟨n + 2, 0, none⟩ v1).heap[k]? = w.heap[k]? := fun k h1 h2 h3 =>
    (Below.heap_setCell _ _ _ _ h3).trans ((hg.block k (by simp; omega) (fun e => h2 e.symm)).trans (Below.heap_alloc _ _ _ h1))
  have hlow : ∀ k, k < n + 5 → sv.ownBlock ≠ some k := fun k h1 h2 => by have := (h.sr.lt k h2).1; omega
  have hs : w'.heap[n + 2]? = some (.cells #[sv] 41 (0, 0)) := (hg.block (n + 2) (by simp; omega) (fun e => hlow _ (by omega) e.symm)).trans ((Below.heap_alloc _ _ _ (by omega)).trans h.s)
  have hv1 : ∀ k, v1.ownBlock = some k → n + 5 ≤ k := fun k h1 => (hown.lt k h1).1
  refine ⟨?_, (hk n (by omega) (hlow _ (by omega)) (by omega)).trans h.box, (hk (n + 1) (by omega) (hlow _ (by omega)) (by omega)).trans h.tb, setCellOf hs v1, (hk (n + 3) (by omega) (hlow _ (by omega)) (by omega)).trans h.r, (hk (n + 4) (by omega) (hlow _ (by omega)) (by omega)).trans h.v, ?_, ?_, ?_, h.n0⟩
  · exact Below.setCell (Below.grown (h.below.alloc (by omega) o) hg (by simp; omega) (fun k h1 => by have := (h.sr.lt k h1).1; omega)) (by show n ≤ n + 2; omega) v1
  · rw [List.length_append, List.length_singleton, nvL_snoc]
    exact ownsRow_same hown fun k h1 => Below.heap_setCell _ _ _ _ (by have := hv1 k h1; show k ≠ n + 2; omega)
  · exact ownsRow_same h.rr fun k h1 => hk k (h.rr.lt k h1).2 (fun e => h.ne k e h1) (by have := (h.rr.lt k h1).1; omega)
  · intro g h1 h2
    rcases hat with e | e
    · exact h.ne g (by rw [← e]; exact h1) h2
    · rw [e] at h1
      injection h1 with h1
      have := (h.rr.lt g h2).2
      simp at h1
      omega
theorem WyAt.snoR (h : WyAt w0 w n A0 A1 A2 A3 A4 A5 q0 q1 q2 q3 q4 q5 l b sv rv S R) (hown : w'.ownsRow (n + 5) 3 1 v1 (R.length + 1) (nvL R ++ [.int .i64 a])) (hg : (w.alloc o).grownBy w' rv.ownBlock) (hat : v1.ownBlock = rv.ownBlock ∨ v1.ownBlock = some (w.alloc o).heap.size) :
    WyAt w0 (w'.setCell ⟨n + 3, 0, none⟩ v1) n A0 A1 A2 A3 A4 A5 q0 q1 q2 q3 q4 q5 l b sv v1 S (R ++ [a]) := by
  have hz := h.size
  have hk : ∀ k, k < w.heap.size → rv.ownBlock ≠ some k → k ≠ n + 3 → (w'.setCell ⟨n + 3, 0, none⟩ v1).heap[k]? = w.heap[k]? := fun k h1 h2 h3 =>
    (Below.heap_setCell _ _ _ _ h3).trans ((hg.block k (by simp; omega) (fun e => h2 e.symm)).trans (Below.heap_alloc _ _ _ h1))
  have hlow : ∀ k, k < n + 5 → rv.ownBlock ≠ some k := fun k h1 h2 => by have := (h.rr.lt k h2).1; omega
  have hs : w'.heap[n + 3]? = some (.cells #[rv] 41 (0, 0)) := (hg.block (n + 3) (by simp; omega) (fun e => hlow _ (by omega) e.symm)).trans ((Below.heap_alloc _ _ _ (by omega)).trans h.r)
  have hv1 : ∀ k, v1.ownBlock = some k → n + 5 ≤ k := fun k h1 => (hown.lt k h1).1
  refine ⟨?_, (hk n (by omega) (hlow _ (by omega)) (by omega)).trans h.box, (hk (n + 1) (by omega) (hlow _ (by omega)) (by omega)).trans h.tb, (hk (n + 2) (by omega) (hlow _ (by omega)) (by omega)).trans h.s, setCellOf hs v1, (hk (n + 4) (by omega) (hlow _ (by omega)) (by omega)).trans h.v, ?_, ?_, ?_, h.n0⟩
  · exact Below.setCell (Below.grown (h.below.alloc (by omega) o) hg (by simp; omega) (fun k h1 => by have := (h.rr.lt k h1).1; omega)) (by show n ≤ n + 3; omega) v1
  · exact ownsRow_same h.sr fun k h1 => hk k (h.sr.lt k h1).2 (fun e => h.ne k h1 e) (by have := (h.sr.lt k h1).1; omega)
  · rw [List.length_append, List.length_singleton, nvL_snoc]
    exact ownsRow_same hown fun k h1 => Below.heap_setCell _ _ _ _ (by have := hv1 k h1; show k ≠ n + 3; omega)
  · intro g h1 h2
    rcases hat with e | e
    · exact h.ne g h1 (by rw [← e]; exact h2)
    · rw [e] at h2
      injection h2 with h2
      have := (h.sr.lt g h1).2
      simp at h2
      omega
theorem own_cut {e B : Nat} {A : Option Addr} {m cap : Nat} {xs : List Value} (h : w.ownsRow B e 1 (.slice A m cap) m xs) {r : Nat} (hr : r ≤ m) : w.ownsRow B e 1 (.slice A r cap) r (xs.take r) := by
  obtain ⟨h1, ⟨h2, h3⟩ | ⟨g, cap', cur, h2, h3, h4, h5, h6, h7, h8⟩⟩ := h
  · injection h2 with e1 e2 e3
    subst e1 e3
    obtain rfl : r = 0 := by omega
    exact ⟨by simp, .inl ⟨rfl, rfl⟩⟩
  · injection h2 with e1 e2 e3
    subst e1 e3
    refine ⟨by simp; omega, .inr ⟨g, cap, cur, rfl, h3, h4, by omega, h6, h7, ?_⟩⟩
    rw [← h8, List.take_take, Nat.mul_one, Nat.mul_one, Nat.min_eq_left hr]
theorem own_block (A : Option Addr) (m m' cap cap' : Nat) : (Value.slice A m cap).ownBlock = (Value.slice A m' cap').ownBlock := by cases A <;> rfl
theorem nvL_take (S : List Nat) (a : Nat) : (nvL (S ++ [a])).take S.length = nvL S := by
  rw [nvL_snoc, List.take_append_of_le_length (by simp [nvL])]
  rw [List.take_of_length_le (by simp [nvL])]
theorem WyAt.popS {A : Option Addr} {cap : Nat} (h : WyAt w0 w n A0 A1 A2 A3 A4 A5 q0 q1 q2 q3 q4 q5 l b (.slice A (S.length + 1) cap) rv (S ++ [a]) R) : WyAt w0 (w.setCell ⟨n + 2, 0, none⟩ (.slice A S.length cap)) n A0 A1 A2 A3 A4 A5 q0 q1 q2 q3 q4 q5 l b (.slice A S.length cap) rv S R := by
  have hz := h.size
  have hk : ∀ k, k ≠ n + 2 → (w.setCell ⟨n + 2, 0, none⟩ (.slice A S.length cap)).heap[k]? = w.heap[k]? := fun k h3 => Below.heap_setCell _ _ _ _ h3
  have hc := h.sr
  rw [List.length_append, List.length_singleton] at hc
  have hc := own_cut hc (r := S.length) (by omega)
  rw [nvL_take] at hc
  refine ⟨Below.setCell h.below (by show n ≤ n + 2; omega) _, (hk n (by omega)).trans h.box, (hk _ (by omega)).trans h.tb, setCellOf h.s _, (hk _ (by omega)).trans h.r, (hk _ (by omega)).trans h.v, ?_, ?_, fun g hg => h.ne g (by rw [own_block A _ S.length _ cap]; exact hg), h.n0⟩
  · exact ownsRow_same hc fun k h1 => hk k (by have := (hc.lt k h1).1; omega)
  · exact ownsRow_same h.rr fun k h1 => hk k (by have := (h.rr.lt k h1).1; omega)
theorem WyAt.popR {A : Option Addr} {cap : Nat} (h : WyAt w0 w n A0 A1 A2 A3 A4 A5 q0 q1 q2 q3 q4 q5 l b sv (.slice A (R.length + 1) cap) S (R ++ [a])) : WyAt w0 (w.setCell ⟨n + 3, 0, none⟩ (.slice A R.length cap)) n A0 A1 A2 A3 A4 A5 q0 q1 q2 q3 q4 q5 l b sv (.slice A R.length cap) S R := by
  have hz := h.size
  have hk : ∀ k, k ≠ n + 3 → (w.setCell ⟨n + 3, 0, none⟩ (.slice A R.length cap)).heap[k]? = w.heap[k]? := fun k h3 => Below.heap_setCell _ _ _ _ h3
  have hc := h.rr
  rw [List.length_append, List.length_singleton] at hc
  have hc := own_cut hc (r := R.length) (by omega)
  rw [nvL_take] at hc
  refine ⟨Below.setCell h.below (by show n ≤ n + 3; omega) _, (hk n (by omega)).trans h.box, (hk _ (by omega)).trans h.tb, (hk _ (by omega)).trans h.s, setCellOf h.r _, (hk _ (by omega)).trans h.v, ?_, ?_, fun g hg => by rw [own_block A _ (R.length + 1) _ cap]; exact h.ne g hg, h.n0⟩
  · exact ownsRow_same h.sr fun k h1 => hk k (by have := (h.sr.lt k h1).1; omega)
  · exact ownsRow_same hc fun k h1 => hk k (by have := (hc.lt k h1).1; omega)
end
end Go.Proofs.Ytmabfnddedffoaa

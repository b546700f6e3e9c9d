/- Part 41 of this claim's texts: walks and plain laws. -/
import Derived.Test.YtmabfnddedffoaaRows
import Derived.Test.YtmabfnddedffoaaGLC40
import Derived.Deep.RegionHeld3
import Derived.Deep.DrawnRows
import Derived.Test.YtmabfnddedffoaaGLC3
/- Sharp bends, the elder program: walk. -/
namespace Go.Proofs.Ytmabfnddedffoaa
open Go.RowKit
set_option linter.unusedVariables false
set_option linter.unusedSimpArgs false
set_option maxRecDepth 100000 in
set_option maxHeartbeats 8000000 in
theorem rBends_any (A0 A1 A2 A3 A4 A5 : Option Addr) (q0 q1 q2 q3 q4 q5 : Nat) (l : Lo) (w : World) (hs : SizedL l) (h : LoA w w.heap.size A0 A1 A2 A3 A4 A5 q0 q1 q2 q3 q4 q5 l) :
    Calls Try.prog 46 #[.agg #[.slice A0 l.m.opts.length q0, .slice A1 l.m.rules.length q1, .slice A2 l.ss.length q2, .slice A3 l.us.length q3, .slice A4 l.ps.length q4, .slice A5 l.ws.length q5]] w (PrsP (benE l) l.err w) := by
  obtain ⟨i0, hi0, iz0, iz1, iz2⟩ := info_parts infoBend
  have H := hide h
  have HS := hide hs
  obtain ⟨z, hz⟩ : ∃ z, l.err = z := ⟨_, rfl⟩
  obtain ⟨K0, hK0⟩ : ∃ K, benE l = K := ⟨_, rfl⟩
  rw [hz, hK0]
  have HZ := hide hz
  clear h hs
  by_cases hz0 : z = 0
  case neg =>
    have hK : K0 = [] := by rw [← hK0]; unfold benE; rw [if_neg (by rw [hz]; exact hz0)]
    subst hK
    have hz1 : (z != 0) = true := by simpa using hz0
    clear hz hz0 hK0
    go_enter Try.func46, Try.ntmps46
    go_upto_region 1 with (fail)
    generalize hw0 : World.alloc _ _ = w0
    obtain ⟨hb0, hB0, hs0⟩ := alloc1 hw0
    have c0 := cellOf hb0 0; have c1 := cellOf hb0 1; have c2 := cellOf hb0 2; have c3 := cellOf hb0 3; have c4 := cellOf hb0 4; have c5 := cellOf hb0 5
    have hlb := box_lt hb0
    have HB0 := hide hB0
    clear hw0 hb0 hB0 hs0
    go_wp2_with (go_at_call 18; refine (rCheck_any A0 A1 A2 A3 A4 A5 q0 q1 q2 q3 q4 q5 l _ HS.out (H.out.up HB0.out)).mono ?_; rw [HZ.out]; rintro e w1 ⟨rfl, hB1⟩; have HB1 := hide (Below.to HB0.out hB1 (Nat.le_refl _)); clear hB1 c0 c1 c2 c3 c4 c5 hlb)
    go_ret2
    exact ⟨_, rfl, Sl.nil _ _ _ _, HB1.out⟩
  case pos =>
  subst hz0
  have ok := Lo.err_ok hz
  have hK : K0 = benO l l.ws.length := by rw [← hK0]; unfold benE; rw [if_pos hz]
  subst hK
  have OK := hide ok
  have hw60 := ok.w60
  have hp30 := ok.p30
  have hs40 := ok.s40
  clear hz hK0 ok
  go_enter Try.func46, Try.ntmps46
  go_upto_region 1 with (fail)
  generalize hw0 : World.alloc _ _ = w0
  obtain ⟨hb0, hB0, hs0⟩ := alloc1 hw0
  have c0 := cellOf hb0 0; have c1 := cellOf hb0 1; have c2 := cellOf hb0 2; have c3 := cellOf hb0 3; have c4 := cellOf hb0 4; have c5 := cellOf hb0 5
  have hlb := box_lt hb0
  have HB0 := hide hB0
  have HL0 : Hid (LoBox w0 w.heap.size A0 A1 A2 A3 A4 A5 q0 q1 q2 q3 q4 q5 l) := hb0
  clear hw0 hb0 hB0 hs0
  go_wp2_with (go_at_call 18; refine (rCheck_any A0 A1 A2 A3 A4 A5 q0 q1 q2 q3 q4 q5 l _ HS.out (H.out.up HB0.out)).mono ?_; rw [HZ.out]; rintro e w1 ⟨rfl, hB1⟩; have HL1 := hide (HL0.out.to hB1); have d0 := cellOf HL1.out 0; have d1 := cellOf HL1.out 1; have d2 := cellOf HL1.out 2; have d3 := cellOf HL1.out 3; have d4 := cellOf HL1.out 4; have d5 := cellOf HL1.out 5; have ld := box_lt HL1.out; have HB1 := hide (Below.to HB0.out hB1 (Nat.le_refl _)); clear hB1 c0 c1 c2 c3 c4 c5 hlb)
  clear d0 d1 d2 d3 d4 d5 ld
  go_loopw [5, 6, 7, 8, 9, 10, 11] (fun o i _ _ _ _ _ wr => ∃ (p : Nat) (A : Option Addr) (cap : Nat) (K : List (Nat × Nat)), i = .int .i64 p ∧ o = .slice A K.length cap ∧ p ≤ l.ws.length ∧ Hid (benO l p = K) ∧ Hid (ClS w1 wr 78 (.slice A K.length cap) K)) (fun _ i _ _ _ _ _ _ => l.ws.length - (intOf i).toNat)
  case atStart => exact ⟨0, none, 0, [], rfl, rfl, Nat.zero_le _, rfl, ClS.start _ _⟩
  case round =>
    obtain ⟨p, Ao, cap, K, rfl, rfl, hp, HK, R⟩ := hrel
    have d0 := cellOf (HL1.out.to R.out.below) 0; have d1 := cellOf (HL1.out.to R.out.below) 1; have d2 := cellOf (HL1.out.to R.out.below) 2; have d3 := cellOf (HL1.out.to R.out.below) 3; have d4 := cellOf (HL1.out.to R.out.below) 4; have d5 := cellOf (HL1.out.to R.out.below) 5
    have ld := box_lt (HL1.out.to R.out.below)
    by_cases hpl : p < l.ws.length
    · have hKl := benO_len OK.out p hp
      rw [HK.out] at hKl
      have hKl2 : K.length ≤ 2400 := by omega
      obtain ⟨Q, hQ⟩ : ∃ Q, rouW l p = Q := ⟨_, rfl⟩
      have hQl := rouW_len OK.out hpl
      have hQlt : ∀ k, k < Q.length → Q.getD k 0 < l.ss.length := fun k hk => by rw [← hQ] at hk ⊢; exact rouW_lt OK.out hpl hk
      rw [hQ] at hQl
      have HQ := hide hQ
      have HQLT := hide hQlt
      have ip : (p : Int) < (l.ws.length : Int) := by omega
      have HHr := hide (H.out.up (Below.to HB1.out R.out.below (Nat.le_refl _)))
      have hBs := R.out.below.size
      clear hQ hQlt hKl
      go_upto_region 9 with (go_at_call 105; refine (rrouteO_any p A0 A1 A2 A3 A4 A5 q0 q1 q2 q3 q4 q5 l _ HHr.out OK.out hpl).mono ?_; rw [HQ.out]; rintro e w3 ⟨v3, rfl, hn3, hB3⟩; obtain ⟨Aq, cq, hsv⟩ := owns_form hn3; subst hsv; have HN3 := hide (owns_base hn3 hBs); have R3 := hide (R.out.to hB3); clear hn3 hB3)
      clear d0 d1 d2 d3 d4 d5 ld R HHr
      go_wp2_with fail
      go_loopw [5, 8, 9, 10, 11] (fun o i _ _ _ wr => ∃ (k : Nat) (A : Option Addr) (cap : Nat) (K' : List (Nat × Nat)), i = .int .i64 k ∧ o = .slice A K'.length cap ∧ 1 ≤ k ∧ (k ≤ Q.length - 1 ∨ k = 1) ∧ K'.length ≤ 2400 + k ∧ Hid (K ++ benI l p k = K') ∧ Hid (ClS w1 wr 78 (.slice A K'.length cap) K') ∧ Hid (wr.ownsRow w1.heap.size 3 1 (.slice Aq Q.length cq) Q.length (nvL Q))) (fun _ i _ _ _ _ => Q.length - (intOf i).toNat)
      case atStart => exact ⟨1, Ao, cap, K, rfl, rfl, by omega, .inr rfl, by omega, by rw [benI_start, List.append_nil]; rfl, R3.out, HN3.out⟩
      case round =>
        clear R3 HN3
        obtain ⟨k, A', cap', K', rfl, rfl, hk1, hk, hKl', HK', R, HN⟩ := hrel
        by_cases hkl : k < Q.length - 1
        · have hnd := Nods.of_own HN.out
          obtain ⟨bt, ot, hAt, hbt, _, ca⟩ := hnd.at (show k - 1 < Q.length by omega)
          obtain ⟨bt2, ot2, hAt2, _, _, cb⟩ := hnd.at (show k < Q.length by omega)
          obtain ⟨bt3, ot3, hAt3, _, _, cc⟩ := hnd.at (show k + 1 < Q.length by omega)
          have hqt := Nods.cap hnd
          subst hAt
          injection hAt2 with hAt2
          injection hAt2 with m1 m2
          subst m1 m2
          injection hAt3 with hAt3
          injection hAt3 with m1 m2
          subst m1 m2
          have la := HQLT.out (k - 1) (by omega)
          have lb := HQLT.out k (by omega)
          have lc := HQLT.out (k + 1) (by omega)
          obtain ⟨qa, hqa⟩ : ∃ q, Q.getD (k - 1) 0 = q := ⟨_, rfl⟩
          obtain ⟨qb, hqb⟩ : ∃ q, Q.getD k 0 = q := ⟨_, rfl⟩
          obtain ⟨qc, hqc⟩ : ∃ q, Q.getD (k + 1) 0 = q := ⟨_, rfl⟩
          rw [hqa] at ca la
          rw [hqb] at cb lb
          rw [hqc] at cc lc
          have HHr := hide (H.out.up (Below.to HB1.out R.out.below (Nat.le_refl _)))
          obtain ⟨bs, os, xa, HXA, rfl, hbs, hq2, a0, a1, a2⟩ := HHr.out.sp la
          obtain ⟨bs2, os2, xb, HXB, hs2, _, _, b0, b1, b2⟩ := HHr.out.sp lb
          obtain ⟨bs3, os3, xc, HXC, hs3, _, _, c0, c1, c2⟩ := HHr.out.sp lc
          injection hs2 with hs2
          injection hs2 with m1 m2
          subst m1 m2
          injection hs3 with hs3
          injection hs3 with m1 m2
          subst m1 m2
          have rga := OK.out.sp la
          have rgb := OK.out.sp lb
          have rgc := OK.out.sp lc
          rw [HXA.out] at rga
          rw [HXB.out] at rgb
          rw [HXC.out] at rgc
          have hben : benB l Q k = decide (bndN xa xb xc < 0) := by unfold benB; rw [hqa, hqb, hqc, HXA.out, HXB.out, HXC.out]
          have HBEN := hide hben
          have HQB := hide hqb
          have HRG := hide (And.intro rga (And.intro rgb rgc))
          have wk : IntKind.i64.wrap ((k : Int) - 1) = ((k - 1 : Nat) : Int) := by rw [IntWalk.i64_in _ (by omega)]; omega
          have wk2 : IntKind.i64.wrap ((k : Int) + 1) = (k : Int) + 1 := IntWalk.i64_in _ (by omega)
          have wk3 : ((k : Int) + 1).toNat = k + 1 := by omega
          have wk4 : 0 ≤ (k : Int) + 1 := by omega
          have ik1 : ((k - 1 : Nat) : Int) < (Q.length : Int) := by omega
          have ik2 : (k : Int) < (Q.length : Int) := by omega
          have ik3 : (k : Int) + 1 < (Q.length : Int) := by omega
          have iqt : (Q.length : Int) ≤ (cq : Int) := by omega
          have ja : (qa : Int) < (l.ss.length : Int) := by omega
          have jb : (qb : Int) < (l.ss.length : Int) := by omega
          have jc : (qc : Int) < (l.ss.length : Int) := by omega
          have jq : (l.ss.length : Int) ≤ (q2 : Int) := by omega
          have d0 := cellOf (HL1.out.to R.out.below) 0; have d1 := cellOf (HL1.out.to R.out.below) 1; have d2 := cellOf (HL1.out.to R.out.below) 2; have d3 := cellOf (HL1.out.to R.out.below) 3; have d4 := cellOf (HL1.out.to R.out.below) 4; have d5 := cellOf (HL1.out.to R.out.below) 5
          have ld := box_lt (HL1.out.to R.out.below)
          have lbt : bt < wr.heap.size := hbt
          have lbs : bs < wr.heap.size := hbs
          clear hnd hqt hqa hqb hqc rga rgb rgc hben hbt hbs HHr la lb lc
          have hkd : decide ((k : Int) + 1 < (Q.length : Int)) = true := by simp; omega
          go_upto_region 12 with (fail)
          go_cut [9, 10, 11] from 34 to 59 (fun pa pb pc wc => ∃ ba bb bc : Nat, pa = .pointer (some ⟨ba, 0, none⟩) ∧ pb = .pointer (some ⟨bb, 0, none⟩) ∧ pc = .pointer (some ⟨bc, 0, none⟩) ∧ Hid (BenC wr wc ba bb bc xa xb xc))
          case first =>
            refine wp_region_held_drew (S := (fun w' => Below wr.heap.size wr w')) (by kernel_rfl) ?_ (fun hHeld => ?_)
            · try dsimp only
              exact (by repeat (first | exact Below.refl _ _ | assumption | refine Below.drew ?_ | refine Below.drewN ?_ _ | refine Below.allocT ?_ (Nat.le_refl _) _ | refine Below.setCell ?_ (by simp <;> omega) _ | refine Below.to ?_ (by assumption) (Nat.le_refl _)))
            refine zT 0 rfl ?_
            try simp only [zX]
            refine zT 1 rfl ?_
            try simp only [zX]
            refine zT 2 rfl ?_
            try simp only [zX]
            refine zT 3 rfl ?_
            try simp only [zX]
            refine zT 4 rfl ?_
            try simp only [zX]
            refine zT 5 rfl ?_
            try simp only [zX]
            refine zT 6 rfl ?_
            try simp only [zX]
            refine zT 7 rfl ?_
            try simp only [zX]
            refine zT 8 rfl ?_
            try simp only [zX]
            refine zT 9 rfl ?_
            try simp only [zX]
            refine zT 10 rfl ?_
            try simp only [zX]
            refine zT 11 rfl ?_
            try simp only [zX]
            refine zT 12 rfl ?_
            try simp only [zX]
            refine zT 13 rfl ?_
            try simp only [zX]
            refine zT 14 rfl ?_
            try simp only [zX]
            refine zT 15 rfl ?_
            try simp only [zX]
            refine zT 16 rfl ?_
            try simp only [zX]
            refine zT 17 rfl ?_
            try simp only [zX]
            refine zT 18 rfl ?_
            try simp only [zX]
            refine zT 19 rfl ?_
            try simp only [zX]
            refine zT 20 rfl ?_
            try simp only [zX]
            refine zT 21 rfl ?_
            try simp only [zX]
            refine zT 22 rfl ?_
            try simp only [zX]
            refine zT 23 rfl ?_
            try simp only [zX]
            refine zT 24 rfl ?_
            try simp only [zX]
            refine zT 25 rfl ?_
            try simp only [zX]
            refine wpAnyH_ready (rs := [26, 27, 28]) (by kernel_rfl) (by simp) ?_
            refine (AllReadyH.cons rfl (fun K hK => ?o1_27_26) (AllReadyH.cons rfl (fun K hK => ?o1_27_27) (AllReadyH.cons rfl (fun K hK => ?o1_27_28) AllReadyH.nil)))
            case' o1_27_26 =>
              go_simp
              refine hK.out _ _ ?_ (fun hNext => ?_)
              · try dsimp only
                exact (by repeat (first | exact Below.refl _ _ | assumption | refine Below.drew ?_ | refine Below.drewN ?_ _ | refine Below.allocT ?_ (Nat.le_refl _) _ | refine Below.setCell ?_ (by simp <;> omega) _ | refine Below.to ?_ (by assumption) (Nat.le_refl _)))
              clear hK K hHeld
              have hHeld := hNext
              clear hNext
              (try dsimp only at hHeld)
              try simp only [zX]
              refine wpAnyH_ready (rs := [27, 28]) (by kernel_rfl) (by simp) ?_
              refine (AllReadyH.cons rfl (fun K hK => ?o1_28_27) (AllReadyH.cons rfl (fun K hK => ?o1_28_28) AllReadyH.nil))
              case' o1_28_27 =>
                go_simp
                refine hK.out _ _ ?_ (fun hNext => ?_)
                · try dsimp only
                  exact (by repeat (first | exact Below.refl _ _ | assumption | refine Below.drew ?_ | refine Below.drewN ?_ _ | refine Below.allocT ?_ (Nat.le_refl _) _ | refine Below.setCell ?_ (by simp <;> omega) _ | refine Below.to ?_ (by assumption) (Nat.le_refl _)))
                clear hK K hHeld
                have hHeld := hNext
                clear hNext
                (try dsimp only at hHeld)
                try simp only [zX]
                refine wpAnyH_ready (rs := [28]) (by kernel_rfl) (by simp) ?_
                refine (AllReadyH.cons rfl (fun K hK => ?_) AllReadyH.nil)
                go_simp
                refine hK.out _ _ ?_ (fun hNext => ?_)
                · try dsimp only
                  exact (by repeat (first | exact Below.refl _ _ | assumption | refine Below.drew ?_ | refine Below.drewN ?_ _ | refine Below.allocT ?_ (Nat.le_refl _) _ | refine Below.setCell ?_ (by simp <;> omega) _ | refine Below.to ?_ (by assumption) (Nat.le_refl _)))
                clear hK K hHeld
                have hHeld := hNext
                clear hNext
                (try dsimp only at hHeld)
                try simp only [zX]
                refine wpAnyH_ready (rs := [29]) (by kernel_rfl) (by simp) ?_
                refine (AllReadyH.cons rfl (fun K hK => ?_) AllReadyH.nil)
                go_simp
                refine hK.out _ _ ?_ (fun hNext => ?_)
                · try dsimp only
                  exact (by repeat (first | exact Below.refl _ _ | assumption | refine Below.drew ?_ | refine Below.drewN ?_ _ | refine Below.allocT ?_ (Nat.le_refl _) _ | refine Below.setCell ?_ (by simp <;> omega) _ | refine Below.to ?_ (by assumption) (Nat.le_refl _)))
                clear hK K hHeld
                have hHeld := hNext
                clear hNext
                (try dsimp only at hHeld)
                try simp only [zX]
                refine wpAnyH_ready (rs := [30]) (by kernel_rfl) (by simp) ?_
                refine (AllReadyH.cons rfl (fun K hK => ?_) AllReadyH.nil)
                go_simp
                refine hK.out _ _ ?_ (fun hNext => ?_)
                · try dsimp only
                  exact (by repeat (first | exact Below.refl _ _ | assumption | refine Below.drew ?_ | refine Below.drewN ?_ _ | refine Below.allocT ?_ (Nat.le_refl _) _ | refine Below.setCell ?_ (by simp <;> omega) _ | refine Below.to ?_ (by assumption) (Nat.le_refl _)))
                clear hK K hHeld
                have hHeld := hNext
                clear hNext
                (try dsimp only at hHeld)
                try simp only [zX]
                refine wpAnyH_ready (rs := [31]) (by kernel_rfl) (by simp) ?_
                refine (AllReadyH.cons rfl (fun K hK => ?_) AllReadyH.nil)
                go_simp
                refine hK.out _ _ ?_ (fun hNext => ?_)
                · try dsimp only
                  exact (by repeat (first | exact Below.refl _ _ | assumption | refine Below.drew ?_ | refine Below.drewN ?_ _ | refine Below.allocT ?_ (Nat.le_refl _) _ | refine Below.setCell ?_ (by simp <;> omega) _ | refine Below.to ?_ (by assumption) (Nat.le_refl _)))
                clear hK K hHeld
                have hHeld := hNext
                clear hNext
                (try dsimp only at hHeld)
                try simp only [zX]
                refine wpAnyH_done (by kernel_rfl) ?_ _
              case' o1_28_28 =>
                go_simp
                refine hK.out _ _ ?_ (fun hNext => ?_)
                · try dsimp only
                  exact (by repeat (first | exact Below.refl _ _ | assumption | refine Below.drew ?_ | refine Below.drewN ?_ _ | refine Below.allocT ?_ (Nat.le_refl _) _ | refine Below.setCell ?_ (by simp <;> omega) _ | refine Below.to ?_ (by assumption) (Nat.le_refl _)))
                clear hK K hHeld
                have hHeld := hNext
                clear hNext
                (try dsimp only at hHeld)
                try simp only [zX]
                refine wpAnyH_ready (rs := [27]) (by kernel_rfl) (by simp) ?_
                refine (AllReadyH.cons rfl (fun K hK => ?_) AllReadyH.nil)
                go_simp
                refine hK.out _ _ ?_ (fun hNext => ?_)
                · try dsimp only
                  exact (by repeat (first | exact Below.refl _ _ | assumption | refine Below.drew ?_ | refine Below.drewN ?_ _ | refine Below.allocT ?_ (Nat.le_refl _) _ | refine Below.setCell ?_ (by simp <;> omega) _ | refine Below.to ?_ (by assumption) (Nat.le_refl _)))
                clear hK K hHeld
                have hHeld := hNext
                clear hNext
                (try dsimp only at hHeld)
                try simp only [zX]
                refine wpAnyH_ready (rs := [29]) (by kernel_rfl) (by simp) ?_
                refine (AllReadyH.cons rfl (fun K hK => ?_) AllReadyH.nil)
                go_simp
                refine hK.out _ _ ?_ (fun hNext => ?_)
                · try dsimp only
                  exact (by repeat (first | exact Below.refl _ _ | assumption | refine Below.drew ?_ | refine Below.drewN ?_ _ | refine Below.allocT ?_ (Nat.le_refl _) _ | refine Below.setCell ?_ (by simp <;> omega) _ | refine Below.to ?_ (by assumption) (Nat.le_refl _)))
                clear hK K hHeld
                have hHeld := hNext
                clear hNext
                (try dsimp only at hHeld)
                try simp only [zX]
                refine wpAnyH_ready (rs := [30]) (by kernel_rfl) (by simp) ?_
                refine (AllReadyH.cons rfl (fun K hK => ?_) AllReadyH.nil)
                go_simp
                refine hK.out _ _ ?_ (fun hNext => ?_)
                · try dsimp only
                  exact (by repeat (first | exact Below.refl _ _ | assumption | refine Below.drew ?_ | refine Below.drewN ?_ _ | refine Below.allocT ?_ (Nat.le_refl _) _ | refine Below.setCell ?_ (by simp <;> omega) _ | refine Below.to ?_ (by assumption) (Nat.le_refl _)))
                clear hK K hHeld
                have hHeld := hNext
                clear hNext
                (try dsimp only at hHeld)
                try simp only [zX]
                refine wpAnyH_ready (rs := [31]) (by kernel_rfl) (by simp) ?_
                refine (AllReadyH.cons rfl (fun K hK => ?_) AllReadyH.nil)
                go_simp
                refine hK.out _ _ ?_ (fun hNext => ?_)
                · try dsimp only
                  exact (by repeat (first | exact Below.refl _ _ | assumption | refine Below.drew ?_ | refine Below.drewN ?_ _ | refine Below.allocT ?_ (Nat.le_refl _) _ | refine Below.setCell ?_ (by simp <;> omega) _ | refine Below.to ?_ (by assumption) (Nat.le_refl _)))
                clear hK K hHeld
                have hHeld := hNext
                clear hNext
                (try dsimp only at hHeld)
                try simp only [zX]
                refine wpAnyH_done (by kernel_rfl) ?_ _
            case' o1_27_27 =>
              go_simp
              refine hK.out _ _ ?_ (fun hNext => ?_)
              · try dsimp only
                exact (by repeat (first | exact Below.refl _ _ | assumption | refine Below.drew ?_ | refine Below.drewN ?_ _ | refine Below.allocT ?_ (Nat.le_refl _) _ | refine Below.setCell ?_ (by simp <;> omega) _ | refine Below.to ?_ (by assumption) (Nat.le_refl _)))
              clear hK K hHeld
              have hHeld := hNext
              clear hNext
              (try dsimp only at hHeld)
              try simp only [zX]
              refine wpAnyH_ready (rs := [26, 28]) (by kernel_rfl) (by simp) ?_
              refine (AllReadyH.cons rfl (fun K hK => ?o1_37_26) (AllReadyH.cons rfl (fun K hK => ?o1_37_28) AllReadyH.nil))
              case' o1_37_26 =>
                go_simp
                refine hK.out _ _ ?_ (fun hNext => ?_)
                · try dsimp only
                  exact (by repeat (first | exact Below.refl _ _ | assumption | refine Below.drew ?_ | refine Below.drewN ?_ _ | refine Below.allocT ?_ (Nat.le_refl _) _ | refine Below.setCell ?_ (by simp <;> omega) _ | refine Below.to ?_ (by assumption) (Nat.le_refl _)))
                clear hK K hHeld
                have hHeld := hNext
                clear hNext
                (try dsimp only at hHeld)
                try simp only [zX]
                refine wpAnyH_ready (rs := [28]) (by kernel_rfl) (by simp) ?_
                refine (AllReadyH.cons rfl (fun K hK => ?_) AllReadyH.nil)
                go_simp
                refine hK.out _ _ ?_ (fun hNext => ?_)
                · try dsimp only
                  exact (by repeat (first | exact Below.refl _ _ | assumption | refine Below.drew ?_ | refine Below.drewN ?_ _ | refine Below.allocT ?_ (Nat.le_refl _) _ | refine Below.setCell ?_ (by simp <;> omega) _ | refine Below.to ?_ (by assumption) (Nat.le_refl _)))
                clear hK K hHeld
                have hHeld := hNext
                clear hNext
                (try dsimp only at hHeld)
                try simp only [zX]
                refine wpAnyH_ready (rs := [29]) (by kernel_rfl) (by simp) ?_
                refine (AllReadyH.cons rfl (fun K hK => ?_) AllReadyH.nil)
                go_simp
                refine hK.out _ _ ?_ (fun hNext => ?_)
                · try dsimp only
                  exact (by repeat (first | exact Below.refl _ _ | assumption | refine Below.drew ?_ | refine Below.drewN ?_ _ | refine Below.allocT ?_ (Nat.le_refl _) _ | refine Below.setCell ?_ (by simp <;> omega) _ | refine Below.to ?_ (by assumption) (Nat.le_refl _)))
                clear hK K hHeld
                have hHeld := hNext
                clear hNext
                (try dsimp only at hHeld)
                try simp only [zX]
                refine wpAnyH_ready (rs := [30]) (by kernel_rfl) (by simp) ?_
                refine (AllReadyH.cons rfl (fun K hK => ?_) AllReadyH.nil)
                go_simp
                refine hK.out _ _ ?_ (fun hNext => ?_)
                · try dsimp only
                  exact (by repeat (first | exact Below.refl _ _ | assumption | refine Below.drew ?_ | refine Below.drewN ?_ _ | refine Below.allocT ?_ (Nat.le_refl _) _ | refine Below.setCell ?_ (by simp <;> omega) _ | refine Below.to ?_ (by assumption) (Nat.le_refl _)))
                clear hK K hHeld
                have hHeld := hNext
                clear hNext
                (try dsimp only at hHeld)
                try simp only [zX]
                refine wpAnyH_ready (rs := [31]) (by kernel_rfl) (by simp) ?_
                refine (AllReadyH.cons rfl (fun K hK => ?_) AllReadyH.nil)
                go_simp
                refine hK.out _ _ ?_ (fun hNext => ?_)
                · try dsimp only
                  exact (by repeat (first | exact Below.refl _ _ | assumption | refine Below.drew ?_ | refine Below.drewN ?_ _ | refine Below.allocT ?_ (Nat.le_refl _) _ | refine Below.setCell ?_ (by simp <;> omega) _ | refine Below.to ?_ (by assumption) (Nat.le_refl _)))
                clear hK K hHeld
                have hHeld := hNext
                clear hNext
                (try dsimp only at hHeld)
                try simp only [zX]
                refine wpAnyH_done (by kernel_rfl) ?_ _
              case' o1_37_28 =>
                go_simp
                refine hK.out _ _ ?_ (fun hNext => ?_)
                · try dsimp only
                  exact (by repeat (first | exact Below.refl _ _ | assumption | refine Below.drew ?_ | refine Below.drewN ?_ _ | refine Below.allocT ?_ (Nat.le_refl _) _ | refine Below.setCell ?_ (by simp <;> omega) _ | refine Below.to ?_ (by assumption) (Nat.le_refl _)))
                clear hK K hHeld
                have hHeld := hNext
                clear hNext
                (try dsimp only at hHeld)
                try simp only [zX]
                refine wpAnyH_ready (rs := [26]) (by kernel_rfl) (by simp) ?_
                refine (AllReadyH.cons rfl (fun K hK => ?_) AllReadyH.nil)
                go_simp
                refine hK.out _ _ ?_ (fun hNext => ?_)
                · try dsimp only
                  exact (by repeat (first | exact Below.refl _ _ | assumption | refine Below.drew ?_ | refine Below.drewN ?_ _ | refine Below.allocT ?_ (Nat.le_refl _) _ | refine Below.setCell ?_ (by simp <;> omega) _ | refine Below.to ?_ (by assumption) (Nat.le_refl _)))
                clear hK K hHeld
                have hHeld := hNext
                clear hNext
                (try dsimp only at hHeld)
                try simp only [zX]
                refine wpAnyH_ready (rs := [29]) (by kernel_rfl) (by simp) ?_
                refine (AllReadyH.cons rfl (fun K hK => ?_) AllReadyH.nil)
                go_simp
                refine hK.out _ _ ?_ (fun hNext => ?_)
                · try dsimp only
                  exact (by repeat (first | exact Below.refl _ _ | assumption | refine Below.drew ?_ | refine Below.drewN ?_ _ | refine Below.allocT ?_ (Nat.le_refl _) _ | refine Below.setCell ?_ (by simp <;> omega) _ | refine Below.to ?_ (by assumption) (Nat.le_refl _)))
                clear hK K hHeld
                have hHeld := hNext
                clear hNext
                (try dsimp only at hHeld)
                try simp only [zX]
                refine wpAnyH_ready (rs := [30]) (by kernel_rfl) (by simp) ?_
                refine (AllReadyH.cons rfl (fun K hK => ?_) AllReadyH.nil)
                go_simp
                refine hK.out _ _ ?_ (fun hNext => ?_)
                · try dsimp only
                  exact (by repeat (first | exact Below.refl _ _ | assumption | refine Below.drew ?_ | refine Below.drewN ?_ _ | refine Below.allocT ?_ (Nat.le_refl _) _ | refine Below.setCell ?_ (by simp <;> omega) _ | refine Below.to ?_ (by assumption) (Nat.le_refl _)))
                clear hK K hHeld
                have hHeld := hNext
                clear hNext
                (try dsimp only at hHeld)
                try simp only [zX]
                refine wpAnyH_ready (rs := [31]) (by kernel_rfl) (by simp) ?_
                refine (AllReadyH.cons rfl (fun K hK => ?_) AllReadyH.nil)
                go_simp
                refine hK.out _ _ ?_ (fun hNext => ?_)
                · try dsimp only
                  exact (by repeat (first | exact Below.refl _ _ | assumption | refine Below.drew ?_ | refine Below.drewN ?_ _ | refine Below.allocT ?_ (Nat.le_refl _) _ | refine Below.setCell ?_ (by simp <;> omega) _ | refine Below.to ?_ (by assumption) (Nat.le_refl _)))
                clear hK K hHeld
                have hHeld := hNext
                clear hNext
                (try dsimp only at hHeld)
                try simp only [zX]
                refine wpAnyH_done (by kernel_rfl) ?_ _
            case' o1_27_28 =>
              go_simp
              refine hK.out _ _ ?_ (fun hNext => ?_)
              · try dsimp only
                exact (by repeat (first | exact Below.refl _ _ | assumption | refine Below.drew ?_ | refine Below.drewN ?_ _ | refine Below.allocT ?_ (Nat.le_refl _) _ | refine Below.setCell ?_ (by simp <;> omega) _ | refine Below.to ?_ (by assumption) (Nat.le_refl _)))
              clear hK K hHeld
              have hHeld := hNext
              clear hNext
              (try dsimp only at hHeld)
              try simp only [zX]
              refine wpAnyH_ready (rs := [26, 27]) (by kernel_rfl) (by simp) ?_
              refine (AllReadyH.cons rfl (fun K hK => ?o1_46_26) (AllReadyH.cons rfl (fun K hK => ?o1_46_27) AllReadyH.nil))
              case' o1_46_26 =>
                go_simp
                refine hK.out _ _ ?_ (fun hNext => ?_)
                · try dsimp only
                  exact (by repeat (first | exact Below.refl _ _ | assumption | refine Below.drew ?_ | refine Below.drewN ?_ _ | refine Below.allocT ?_ (Nat.le_refl _) _ | refine Below.setCell ?_ (by simp <;> omega) _ | refine Below.to ?_ (by assumption) (Nat.le_refl _)))
                clear hK K hHeld
                have hHeld := hNext
                clear hNext
                (try dsimp only at hHeld)
                try simp only [zX]
                refine wpAnyH_ready (rs := [27]) (by kernel_rfl) (by simp) ?_
                refine (AllReadyH.cons rfl (fun K hK => ?_) AllReadyH.nil)
                go_simp
                refine hK.out _ _ ?_ (fun hNext => ?_)
                · try dsimp only
                  exact (by repeat (first | exact Below.refl _ _ | assumption | refine Below.drew ?_ | refine Below.drewN ?_ _ | refine Below.allocT ?_ (Nat.le_refl _) _ | refine Below.setCell ?_ (by simp <;> omega) _ | refine Below.to ?_ (by assumption) (Nat.le_refl _)))
                clear hK K hHeld
                have hHeld := hNext
                clear hNext
                (try dsimp only at hHeld)
                try simp only [zX]
                refine wpAnyH_ready (rs := [29]) (by kernel_rfl) (by simp) ?_
                refine (AllReadyH.cons rfl (fun K hK => ?_) AllReadyH.nil)
                go_simp
                refine hK.out _ _ ?_ (fun hNext => ?_)
                · try dsimp only
                  exact (by repeat (first | exact Below.refl _ _ | assumption | refine Below.drew ?_ | refine Below.drewN ?_ _ | refine Below.allocT ?_ (Nat.le_refl _) _ | refine Below.setCell ?_ (by simp <;> omega) _ | refine Below.to ?_ (by assumption) (Nat.le_refl _)))
                clear hK K hHeld
                have hHeld := hNext
                clear hNext
                (try dsimp only at hHeld)
                try simp only [zX]
                refine wpAnyH_ready (rs := [30]) (by kernel_rfl) (by simp) ?_
                refine (AllReadyH.cons rfl (fun K hK => ?_) AllReadyH.nil)
                go_simp
                refine hK.out _ _ ?_ (fun hNext => ?_)
                · try dsimp only
                  exact (by repeat (first | exact Below.refl _ _ | assumption | refine Below.drew ?_ | refine Below.drewN ?_ _ | refine Below.allocT ?_ (Nat.le_refl _) _ | refine Below.setCell ?_ (by simp <;> omega) _ | refine Below.to ?_ (by assumption) (Nat.le_refl _)))
                clear hK K hHeld
                have hHeld := hNext
                clear hNext
                (try dsimp only at hHeld)
                try simp only [zX]
                refine wpAnyH_ready (rs := [31]) (by kernel_rfl) (by simp) ?_
                refine (AllReadyH.cons rfl (fun K hK => ?_) AllReadyH.nil)
                go_simp
                refine hK.out _ _ ?_ (fun hNext => ?_)
                · try dsimp only
                  exact (by repeat (first | exact Below.refl _ _ | assumption | refine Below.drew ?_ | refine Below.drewN ?_ _ | refine Below.allocT ?_ (Nat.le_refl _) _ | refine Below.setCell ?_ (by simp <;> omega) _ | refine Below.to ?_ (by assumption) (Nat.le_refl _)))
                clear hK K hHeld
                have hHeld := hNext
                clear hNext
                (try dsimp only at hHeld)
                try simp only [zX]
                refine wpAnyH_done (by kernel_rfl) ?_ _
              case' o1_46_27 =>
                go_simp
                refine hK.out _ _ ?_ (fun hNext => ?_)
                · try dsimp only
                  exact (by repeat (first | exact Below.refl _ _ | assumption | refine Below.drew ?_ | refine Below.drewN ?_ _ | refine Below.allocT ?_ (Nat.le_refl _) _ | refine Below.setCell ?_ (by simp <;> omega) _ | refine Below.to ?_ (by assumption) (Nat.le_refl _)))
                clear hK K hHeld
                have hHeld := hNext
                clear hNext
                (try dsimp only at hHeld)
                try simp only [zX]
                refine wpAnyH_ready (rs := [26]) (by kernel_rfl) (by simp) ?_
                refine (AllReadyH.cons rfl (fun K hK => ?_) AllReadyH.nil)
                go_simp
                refine hK.out _ _ ?_ (fun hNext => ?_)
                · try dsimp only
                  exact (by repeat (first | exact Below.refl _ _ | assumption | refine Below.drew ?_ | refine Below.drewN ?_ _ | refine Below.allocT ?_ (Nat.le_refl _) _ | refine Below.setCell ?_ (by simp <;> omega) _ | refine Below.to ?_ (by assumption) (Nat.le_refl _)))
                clear hK K hHeld
                have hHeld := hNext
                clear hNext
                (try dsimp only at hHeld)
                try simp only [zX]
                refine wpAnyH_ready (rs := [29]) (by kernel_rfl) (by simp) ?_
                refine (AllReadyH.cons rfl (fun K hK => ?_) AllReadyH.nil)
                go_simp
                refine hK.out _ _ ?_ (fun hNext => ?_)
                · try dsimp only
                  exact (by repeat (first | exact Below.refl _ _ | assumption | refine Below.drew ?_ | refine Below.drewN ?_ _ | refine Below.allocT ?_ (Nat.le_refl _) _ | refine Below.setCell ?_ (by simp <;> omega) _ | refine Below.to ?_ (by assumption) (Nat.le_refl _)))
                clear hK K hHeld
                have hHeld := hNext
                clear hNext
                (try dsimp only at hHeld)
                try simp only [zX]
                refine wpAnyH_ready (rs := [30]) (by kernel_rfl) (by simp) ?_
                refine (AllReadyH.cons rfl (fun K hK => ?_) AllReadyH.nil)
                go_simp
                refine hK.out _ _ ?_ (fun hNext => ?_)
                · try dsimp only
                  exact (by repeat (first | exact Below.refl _ _ | assumption | refine Below.drew ?_ | refine Below.drewN ?_ _ | refine Below.allocT ?_ (Nat.le_refl _) _ | refine Below.setCell ?_ (by simp <;> omega) _ | refine Below.to ?_ (by assumption) (Nat.le_refl _)))
                clear hK K hHeld
                have hHeld := hNext
                clear hNext
                (try dsimp only at hHeld)
                try simp only [zX]
                refine wpAnyH_ready (rs := [31]) (by kernel_rfl) (by simp) ?_
                refine (AllReadyH.cons rfl (fun K hK => ?_) AllReadyH.nil)
                go_simp
                refine hK.out _ _ ?_ (fun hNext => ?_)
                · try dsimp only
                  exact (by repeat (first | exact Below.refl _ _ | assumption | refine Below.drew ?_ | refine Below.drewN ?_ _ | refine Below.allocT ?_ (Nat.le_refl _) _ | refine Below.setCell ?_ (by simp <;> omega) _ | refine Below.to ?_ (by assumption) (Nat.le_refl _)))
                clear hK K hHeld
                have hHeld := hNext
                clear hNext
                (try dsimp only at hHeld)
                try simp only [zX]
                refine wpAnyH_done (by kernel_rfl) ?_ _
            all_goals
              generalize hwq : World.drew _ = wq at hHeld ⊢
              obtain ⟨g0, g1, g2, gB⟩ := alloc3d hwq
              have G0 := hide g0
              have G1 := hide g1
              have G2 := hide g2
              have GB := hide gB
              clear hwq hHeld g0 g1 g2 gB
              go_wp2_with fail
              go_meet
              case rel => exact ⟨_, _, _, rfl, rfl, rfl, ⟨GB.out, by first | exact G0.out | exact G1.out | exact G2.out, by first | exact G0.out | exact G1.out | exact G2.out, by first | exact G0.out | exact G1.out | exact G2.out⟩⟩
          case rest =>
            obtain ⟨ba, bb, bc, rfl, rfl, rfl, HBC⟩ := hcut
            have R5 := hide (R.out.to HBC.out.below)
            have HN5 := hide (owns_below HN.out HBC.out.below)
            have hba := HBC.out.a
            have hbb := HBC.out.b
            have hbc := HBC.out.c
            have x0 := cellOf hba 0; have x1 := cellOf hba 1; have x2 := cellOf hba 2
            have y0 := cellOf hbb 0; have y1 := cellOf hbb 1; have y2 := cellOf hbb 2
            have z0 := cellOf hbc 0; have z1 := cellOf hbc 1; have z2 := cellOf hbc 2
            have lx := box_lt hba
            have ly := box_lt hbb
            have lz := box_lt hbc
            have hnd5 := Nods.of_own HN5.out
            obtain ⟨_, _, hA6, hbt6, _, cb6⟩ := hnd5.at (show k < Q.length by omega)
            injection hA6 with hA6
            injection hA6 with m1 m2
            subst m1 m2
            rw [HQB.out] at cb6
            obtain ⟨⟨⟨ax0, ax1⟩, ⟨ay0, ay1⟩, az0, az1⟩, ⟨⟨bx0, bx1⟩, ⟨by0, by1⟩, bz0, bz1⟩, ⟨cx0, cx1⟩, ⟨cy0, cy1⟩, cz0, cz1⟩ := HRG.out
            obtain ⟨e1, e2⟩ := mul_bd (x := xb.x - xa.x) (y := xc.x - xb.x) (c := 200000) (by omega) (by omega) (by omega) (by omega) (by omega)
            obtain ⟨e3, e4⟩ := mul_bd (x := xb.y - xa.y) (y := xc.y - xb.y) (c := 200000) (by omega) (by omega) (by omega) (by omega) (by omega)
            obtain ⟨e5, e6⟩ := mul_bd (x := xb.z - xa.z) (y := xc.z - xb.z) (c := 200000) (by omega) (by omega) (by omega) (by omega) (by omega)
            have lbt : bt < wc.heap.size := hbt6
            have hKb : K'.length ≤ 2500 := by omega
            clear hba hbb hbc hnd5 hbt6 wk wk2 wk3 wk4 a0 a1 a2 b0 b1 b2 c0 c1 c2 ca cb cc d0 d1 d2 d3 d4 d5 ld lbs ik1 ik3 ja jb jc R HN
            by_cases hneg : (xb.x - xa.x) * (xc.x - xb.x) + (xb.y - xa.y) * (xc.y - xb.y) + (xb.z - xa.z) * (xc.z - xb.z) < 0
            · have HST : Hid (benB l (rouW l p) k = true) := by show _ = _; rw [HQ.out, HBEN.out]; exact decide_eq_true hneg
              have hBw := R5.out.below.size
              have HQB2 : Hid ((rouW l p).getD k 0 = qb) := by show _ = _; rw [HQ.out]; exact HQB.out
              go_wp2_with (at_builtin; go_must (refine wpList_append_own_at _ rfl (.tmp 96) (.tmp 103) _ rfl (w1.heap.size) 78 i0 _ 2 16 Try.underlying72 hi0 iz0 iz1 iz2 rfl (by omega) _ _ _ rfl ((R5.out.own).alloc _) ⟨wc.heap.size, 0, none⟩ 1 1 [.int .i64 (p : Nat), .int .i64 (qb : Nat)] rfl rfl (World.news_of_block (heap_alloc_new wc _)) (by simp [Value.oneCell']) (by have h1 := hKb; unfold maxLen; omega) (by have h1 := hKb; omega) (by have h1 := hBw; simp; omega) ?_); intro v1 w3 hown1 hg1 _ hat1; obtain ⟨A6, cap6, hv6⟩ := owns_form hown1; subst hv6; have R6 := hide (R5.out.push hown1 hg1); have HN6 := hide (ownsKeep HN5.out R5.out.own (by decide) hg1); clear hown1 hg1 hat1)
              go_roundw
              case rel => exact ⟨k + 1, A6, cap6, K' ++ [(p, qb)], by go_num, by rw [List.length_append, List.length_singleton], by omega, .inl (by omega), by rw [List.length_append, List.length_singleton]; omega, by rw [benI_yes hk1 HST.out, HQB2.out, ← List.append_assoc, HK'.out]; rfl, by rw [List.length_append, List.length_singleton]; exact R6.out, HN6.out⟩
              case measure => simp [intOf]; omega
            · have HST : Hid (benB l (rouW l p) k = false) := by show _ = _; rw [HQ.out, HBEN.out]; exact decide_eq_false hneg
              go_wp2_with fail
              go_roundw
              case rel => exact ⟨k + 1, A', cap', K', by go_num, rfl, by omega, .inl (by omega), by omega, by rw [benI_no hk1 HST.out]; exact HK'.out, R5.out, HN5.out⟩
              case measure => simp [intOf]; omega
        · have hfin : K ++ benI l p (Q.length - 1) = K' := by
            rcases hk with h | h
            · rw [show Q.length - 1 = k by omega]; exact HK'.out
            · subst h
              have h1 := HK'.out
              rw [benI_start] at h1
              rcases (by omega : Q.length - 1 = 0 ∨ Q.length - 1 = 1) with h2 | h2
              · rw [h2, benI_zero]; exact h1
              · rw [h2, benI_start]; exact h1
          have HFIN := hide hfin
          have wl : (k : Int) < (Q.length : Int) - 1 ↔ False := by simp; omega
          have hK'l : K'.length ≤ 2441 := by
            have h1 := hfin
            have h2 := benI_len l p (Q.length - 1)
            rw [← h1, List.length_append]
            omega
          clear hfin wl
          have hnk : ¬ (k : Int) + 1 < (Q.length : Int) := by omega
          go_wp2_with fail
          go_roundw
          case rel => exact ⟨p + 1, A', cap', K', by go_num, rfl, by omega, by rw [benO_next, HK.out, HQ.out]; exact HFIN.out, R.out⟩
          case measure => simp [intOf]; omega
    · have hpe : p = l.ws.length := by omega
      subst hpe
      go_wp2_with fail
      go_ret2
      exact ⟨_, rfl, by rw [HK.out]; exact R.out.prs, Below.to HB1.out R.out.below (Nat.le_refl _)⟩
end Go.Proofs.Ytmabfnddedffoaa

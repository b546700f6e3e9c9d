/- How warm a wire ever becomes: the reference's walk, and both Peaks. -/
import Derived.Test.YtejjjijaojkohaaRows
import Derived.Test.YtejjjijaojkohaaW13
namespace Go.Proofs.Ytejjjijaojkohaa
open Go.RowKit
set_option linter.unusedVariables false

theorem ampAt_lt {cs : List Cu} {t : Nat} (h : t < secsN cs) : ampAt cs t = (secsL cs).getD t 0 := by
  unfold ampAt; rw [Nat.mod_eq_of_lt h]

set_option maxRecDepth 100000 in
theorem rpeak_any (g : Ga) (v : Value) (cs : List Cu) (w : World) (hg : g.Ok) (hok : cycOk cs = true) (h : Cyc w w.heap.size v cs) :
    Calls Try.prog 69 #[.agg #[.int .i64 g.area, .int .i64 g.ohm, .int .i64 g.heat, .int .i64 g.cool, .int .i64 g.limit], v] w fun e w' => e = .returned (.int .i64 (peakI g cs g.limit)) ∧ Below w.heap.size w w' := by
  have H := hide h
  obtain ⟨A0, cap0, rfl⟩ := h.form
  clear h
  have HG := hide hg
  have HOK := hide hok
  have hl0 := hg.limit0
  have hl1 := hg.limit1
  clear hg hok
  go_enter Try.func69, Try.ntmps69
  go_wp2_with fail
  refine (seconds_any _ cs _ HOK.out ((H.out.below (by repeat (first | exact Below.refl _ _ | assumption | refine Below.drew ?_ | refine Below.drewN ?_ _ | refine Below.allocT ?_ (Nat.le_refl _) _ | refine Below.setCell ?_ (by simp <;> omega) _ | refine Below.to ?_ (by assumption) (Nat.le_refl _)))).more (by simp))).mono ?_
  rintro e w3 ⟨v3, rfl, hown, hB3⟩
  have hGb := box_at hB3
  have hW3 : Below w.heap.size w w3 := (by repeat (first | exact Below.refl _ _ | assumption | refine Below.drew ?_ | refine Below.drewN ?_ _ | refine Below.allocT ?_ (Nat.le_refl _) _ | refine Below.setCell ?_ (by simp <;> omega) _ | refine Below.to ?_ (by assumption) (Nat.le_refl _)))
  have hs3 := box_lt hGb
  have hposN := secsN_pos HOK.out
  have hleN := secsN_le HOK.out
  obtain ⟨A, b, off, cap, hv3, hcp, hA, hc⟩ := Ints.of_owns hown
  have HC := hide hc; clear hc
  have HA := hide hA; clear hA
  have HGB := hide hGb; clear hGb
  rw [hv3]
  clear hB3 hv3 hcp hown
  go_wp2
  go_loopg [6, 7] (g.limit.toNat + 1) (fun m rise most wr => ∃ r M : Int, Hid (m = (g.limit - r + 1).toNat) ∧ Hid (PkAt (warmI g) cs g.limit (peakI g cs g.limit) r) ∧ rise = .int .i64 r ∧ most = .int .i64 M ∧ r ≤ M ∧ M ≤ g.limit ∧ Hid (M ≤ cyMx (warmI g) cs r) ∧ Below w3.heap.size w3 wr)
  case atStart => exact ⟨0, 0, (by show _ = _; omega), PkAt.start hl0 (cySt_nonneg HG.out HOK.out (Int.le_refl _)), rfl, rfl, by omega, by omega, le_cyMx _ _ _, Below.refl _ _⟩
  case round =>
    obtain ⟨r, M, hm, hp, rfl, rfl, hrM, hMl, hMc, hB⟩ := hrel
    have hp1 := hp.out.lo
    have hp2 := hp.out.hi
    go_wp2
    obtain ⟨wo, rfl⟩ : ∃ wo : World, wo = wr := ⟨_, rfl⟩
    go_loopw [6, 7, 9] (fun rise most s wr => ∃ (t : Nat) (x y : Int), t ≤ secsN cs ∧ s = .int .i64 t ∧ rise = .int .i64 x ∧ most = .int .i64 y ∧ Hid (stU (warmI g) cs r t = x) ∧ Hid (max M (mxU (warmI g) cs r t) = y) ∧ 0 ≤ x ∧ x ≤ y ∧ y ≤ g.limit ∧ Below w3.heap.size w3 wr) (fun _ _ s _ => secsN cs - (intOf s).toNat)
    case atStart => exact ⟨0, r, M, Nat.zero_le _, rfl, rfl, rfl, rfl, (by show max M r = M; omega), hp1, hrM, hMl, hB⟩
    case round =>
      obtain ⟨t, x, y, ht, rfl, rfl, rfl, hx, hy, hx0, hxy, hyl, hB2⟩ := hrel
      by_cases hlt : t < secsN cs
      · obtain ⟨z, hz, hA1, hA2, hcz⟩ := intAt (k := t) hB2 HA.out HC.out hlt
        subst hA1
        have hGr := (hB2.block _ hs3).trans HGB.out
        have q0 := cellOf hGr 0
        have q1 := cellOf hGr 1
        have q2 := cellOf hGr 2
        have q3 := cellOf hGr 3
        have q4 := cellOf hGr 4
        have HGR := hide hGr
        clear hGr
        have hz2 : ampAt cs t = z := (ampAt_lt hlt).trans hz.out
        have hzr := ampAt_range HOK.out t
        rw [hz2] at hzr
        obtain ⟨hz3, hz4⟩ := hzr
        have HZ2 := hide hz2
        clear hz2
        have hidx : (t : Int) < (secsN cs : Int) := by omega
        have hidx0 : (0 : Int) ≤ (t : Int) := by omega
        go_wp2
        go_still_tail 6, (by kernel_rfl)
        change wpList _ _ _ _ _ wr.drew
        have g1 := HG.out
        go_wp2_with fail
        refine (rwarm_any g x z _ g1.heat0 g1.heat1 g1.cool0 g1.cool1 hx0 (by omega) hz3 hz4).mono ?_
        rintro e w4 ⟨rfl, hB4⟩
        have hB4' : Below wr.heap.size wr w4 := ⟨hB4.os, hB4.tape, hB4.output, hB4.size, hB4.block⟩
        have hB5 : Below w3.heap.size w3 w4 := Below.to hB2 hB4' (Nat.le_refl _)
        have hrg := warmI_range g x z g1.heat0 g1.heat1 g1.cool0 g1.cool1 hx0 hz3 hz4
        obtain ⟨x2, hx2⟩ : ∃ x2, warmI g x z = x2 := ⟨_, rfl⟩
        rw [hx2] at hrg ⊢
        have hst : stU (warmI g) cs r (t + 1) = x2 := by rw [stU_succ, hx.out, HZ2.out, hx2]
        have hmx : max M (mxU (warmI g) cs r (t + 1)) = max y x2 := by rw [mxU_succ, hst, ← hy.out]; omega
        have HST := hide hst
        have HMX := hide hmx
        have hGr := box_to HGR.out hB4'
        clear hst hmx q0 q1 q2 q3 q4 hB4 hcz hx2
        have q4 := cellOf hGr 4
        clear hGr
        obtain ⟨hr0, hr1⟩ := hrg
        have HB4 := hide hB4'
        have HB5 := hide hB5
        clear hB4' hB5
        by_cases hmax : y ≤ x2
        · have hy2 : max y x2 = x2 := by omega
          by_cases hov : g.limit < x2
          · go_wp2_with fail
            go_ret
            refine ⟨ret_int (hp.out.over ?_).symm, hW3.trans (HB5.out.mono hW3.size)⟩
            have h1 := HMX.out
            have h2 := mxU_le (warmI g) cs r (s := t + 1) (t := secsN cs) (by omega)
            unfold cyMx
            omega
          · go_wp2_with fail
            go_roundw
            case rel => exact ⟨t + 1, x2, x2, by omega, by go_num, rfl, congrArg (Value.int IntKind.i64) (by split <;> omega), HST.out, (by show _ = _; rw [HMX.out]; omega), by omega, by omega, by omega, HB5.out⟩
            case measure => simp [intOf]; omega
        · have hy2 : max y x2 = y := by omega
          go_wp2_with fail
          go_roundw
          case rel => exact ⟨t + 1, x2, y, by omega, by go_num, rfl, rfl, HST.out, (by show _ = _; rw [HMX.out]; omega), by omega, by omega, by omega, HB5.out⟩
          case measure => simp [intOf]; omega
      · have ht2 : t = secsN cs := by omega
        have hx3 : cySt (warmI g) cs r = x := by unfold cySt; rw [← ht2]; exact hx.out
        have hy3 : cyMx (warmI g) cs r = y := by
          have h1 := hy.out
          have h2 := hMc.out
          rw [ht2] at h1
          unfold cyMx at h2 ⊢
          omega
        have HX3 := hide hx3
        have HY3 := hide hy3
        clear ht2 hx3 hy3
        by_cases hst : x = r
        · have hst1 : (x == r) = true := by simp [hst]
          have HST := hide hst
          clear hst
          go_wp2_with fail
          go_ret
          exact ⟨ret_int (by rw [hp.out.stay (by rw [HY3.out]; omega) (HX3.out.trans HST.out), HY3.out]), hW3.trans (hB2.mono hW3.size)⟩
        · have hst1 : (x == r) = false := by simp [hst]
          go_wp2_with fail
          have hnx := hp.out.next (warmI_mono g HG.out.cool0 HG.out.cool1) (by rw [HY3.out]; omega) (by rw [HX3.out]; exact hst)
          have hmono := mxU_mono (cs := cs) (warmI_mono g HG.out.cool0 HG.out.cool1) (a := r) (b := x) (by have := hnx.2; rw [HX3.out] at this; omega) (secsN cs)
          rw [HX3.out] at hnx
          go_roundg ((g.limit - x + 1).toNat)
          case rel => exact ⟨x, y, rfl, hnx.1, rfl, rfl, hxy, hyl, (by show y ≤ _; rw [← HY3.out]; exact hmono), hB2⟩
          case measure =>
            rw [hm.out]
            have := hnx.1.hi
            omega

def peakErr (g : Ga) (cs : List Cu) : Int := if g.ok then if cycOk cs then 0 else 71 else 70
def peakVal (g : Ga) (cs : List Cu) : Int := if g.ok && cycOk cs then peakI g cs g.limit else 0

theorem rPeak_any (g : Ga) (v : Value) (cs : List Cu) (w : World) (hn : cs.length ≤ 20) (h : Cyc w w.heap.size v cs) :
    Calls Try.prog 29 #[.agg #[.int .i64 g.area, .int .i64 g.ohm, .int .i64 g.heat, .int .i64 g.cool, .int .i64 g.limit], v] w fun e w' => e = .returned (.tuple #[.int .i64 (peakVal g cs), .int .i64 (peakErr g cs)]) ∧ Below w.heap.size w w' := by
  have H := hide h
  obtain ⟨A0, cap0, rfl⟩ := h.form
  clear h
  by_cases hg : g.ok = true
  · by_cases hok : cycOk cs = true
    · have HG := hide (Ga.ok_iff.1 hg)
      have HOK := hide hok
      go_enter Try.func29, Try.ntmps29
      go_wp2_with (first
          | (go_at_call 51; refine (gauge_any g _).mono ?_; rw [hg]; rintro e w1 ⟨rfl, hB1⟩
             have hW1 : Below w.heap.size w w1 := (by repeat (first | exact Below.refl _ _ | assumption | refine Below.drew ?_ | refine Below.drewN ?_ _ | refine Below.allocT ?_ (Nat.le_refl _) _ | refine Below.setCell ?_ (by simp <;> omega) _ | refine Below.to ?_ (by assumption) (Nat.le_refl _)))
             have H1 : Cyc w1 w1.heap.size (.slice A0 cs.length cap0) cs := (H.out.below hW1).more hW1.size
             have H1 := hide H1
             have hb1 := box_at hB1
             have q10 := cellOf hb1 0; have q11 := cellOf hb1 1; have q12 := cellOf hb1 2; have q13 := cellOf hb1 3; have q14 := cellOf hb1 4; have q1l := box_lt hb1; have q1h := hide hb1; clear hb1)
          | (go_at_call 61; refine (cycled_any _ cs _ hn H1.out).mono ?_; rw [hok]; rintro e w2 ⟨rfl, hB2⟩
             have hW2 : Below w.heap.size w w2 := (by repeat (first | exact Below.refl _ _ | assumption | refine Below.drew ?_ | refine Below.drewN ?_ _ | refine Below.allocT ?_ (Nat.le_refl _) _ | refine Below.setCell ?_ (by simp <;> omega) _ | refine Below.to ?_ (by assumption) (Nat.le_refl _)))
             have H2 : Cyc w2 w2.heap.size (.slice A0 cs.length cap0) cs := (H.out.below hW2).more hW2.size
             have H2 := hide H2
             have hb2 := box_to q1h.out hB2
             have q20 := cellOf hb2 0; have q21 := cellOf hb2 1; have q22 := cellOf hb2 2; have q23 := cellOf hb2 3; have q24 := cellOf hb2 4; have q2l := box_lt hb2; have q2h := hide hb2; clear hb2)
          | (go_at_call 69; refine (rpeak_any g _ cs _ HG.out HOK.out H2.out).mono ?_; rintro e w3 ⟨rfl, hB3⟩
             have hW3 : Below w.heap.size w w3 := (by repeat (first | exact Below.refl _ _ | assumption | refine Below.drew ?_ | refine Below.drewN ?_ _ | refine Below.allocT ?_ (Nat.le_refl _) _ | refine Below.setCell ?_ (by simp <;> omega) _ | refine Below.to ?_ (by assumption) (Nat.le_refl _)))))
      go_ret2
      exact ⟨by simp [peakVal, peakErr, hg, hok], hW3⟩
    · have hok' : cycOk cs = false := by simpa using hok
      go_enter Try.func29, Try.ntmps29
      go_wp2_with (first
          | (go_at_call 51; refine (gauge_any g _).mono ?_; rw [hg]; rintro e w1 ⟨rfl, hB1⟩
             have hW1 : Below w.heap.size w w1 := (by repeat (first | exact Below.refl _ _ | assumption | refine Below.drew ?_ | refine Below.drewN ?_ _ | refine Below.allocT ?_ (Nat.le_refl _) _ | refine Below.setCell ?_ (by simp <;> omega) _ | refine Below.to ?_ (by assumption) (Nat.le_refl _)))
             have H1 : Cyc w1 w1.heap.size (.slice A0 cs.length cap0) cs := (H.out.below hW1).more hW1.size
             have H1 := hide H1)
          | (go_at_call 61; refine (cycled_any _ cs _ hn H1.out).mono ?_; rw [hok']; rintro e w2 ⟨rfl, hB2⟩
             have hW2 : Below w.heap.size w w2 := (by repeat (first | exact Below.refl _ _ | assumption | refine Below.drew ?_ | refine Below.drewN ?_ _ | refine Below.allocT ?_ (Nat.le_refl _) _ | refine Below.setCell ?_ (by simp <;> omega) _ | refine Below.to ?_ (by assumption) (Nat.le_refl _)))))
      go_ret2
      exact ⟨by simp [peakVal, peakErr, hg, hok], hW2⟩
  · have hg' : g.ok = false := by simpa using hg
    go_enter Try.func29, Try.ntmps29
    go_wp2_with (go_at_call 51; refine (gauge_any g _).mono ?_; rw [hg']; rintro e w1 ⟨rfl, hB1⟩
                 have hW1 : Below w.heap.size w w1 := (by repeat (first | exact Below.refl _ _ | assumption | refine Below.drew ?_ | refine Below.drewN ?_ _ | refine Below.allocT ?_ (Nat.le_refl _) _ | refine Below.setCell ?_ (by simp <;> omega) _ | refine Below.to ?_ (by assumption) (Nat.le_refl _))))
    go_ret2
    exact ⟨by simp [peakVal, peakErr, hg], hW1⟩

theorem Peak_any (g : Ga) (v : Value) (cs : List Cu) (w : World) (hn : cs.length ≤ 20) (h : Cyc w w.heap.size v cs) :
    Calls Try.prog 28 #[.agg #[.int .i64 g.area, .int .i64 g.ohm, .int .i64 g.heat, .int .i64 g.cool, .int .i64 g.limit], v] w fun e w' => e = .returned (.tuple #[.int .i64 (peakVal g cs), .int .i64 (peakErr g cs)]) ∧ Below w.heap.size w w' := by
  have H := hide h
  obtain ⟨A0, cap0, rfl⟩ := h.form
  clear h
  by_cases hg : g.ok = true
  · have hgi := gaugeI g hg
    by_cases hok : cycOk cs = true
    · have hci := cycI hok
      have g1 := Ga.ok_iff.1 hg
      have HG := hide g1; clear g1
      have HOK := hide hok
      go_enter Try.func28, Try.ntmps28
      go_wp2_with (first
          | (go_at_call 48; refine (checkGauge_any g _).mono ?_; rw [hgi]; rintro e w1 ⟨rfl, hB1⟩
             have hW1 : Below w.heap.size w w1 := (by repeat (first | exact Below.refl _ _ | assumption | refine Below.drew ?_ | refine Below.drewN ?_ _ | refine Below.allocT ?_ (Nat.le_refl _) _ | refine Below.setCell ?_ (by simp <;> omega) _ | refine Below.to ?_ (by assumption) (Nat.le_refl _)))
             have H1 : Cyc w1 w1.heap.size (.slice A0 cs.length cap0) cs := (H.out.below hW1).more hW1.size
             have H1 := hide H1
             have hb1 := box_at hB1
             have q10 := cellOf hb1 0; have q11 := cellOf hb1 1; have q12 := cellOf hb1 2; have q13 := cellOf hb1 3; have q14 := cellOf hb1 4; have q1l := box_lt hb1; have q1h := hide hb1; clear hb1)
          | (go_at_call 59; refine (checkCycle_any _ cs _ hn H1.out).mono ?_; rw [hci]; rintro e w2 ⟨rfl, hB2⟩
             have hW2 : Below w.heap.size w w2 := (by repeat (first | exact Below.refl _ _ | assumption | refine Below.drew ?_ | refine Below.drewN ?_ _ | refine Below.allocT ?_ (Nat.le_refl _) _ | refine Below.setCell ?_ (by simp <;> omega) _ | refine Below.to ?_ (by assumption) (Nat.le_refl _)))
             have H2 : Cyc w2 w2.heap.size (.slice A0 cs.length cap0) cs := (H.out.below hW2).more hW2.size
             have H2 := hide H2
             have hb2 := box_to q1h.out hB2
             have q20 := cellOf hb2 0; have q21 := cellOf hb2 1; have q22 := cellOf hb2 2; have q23 := cellOf hb2 3; have q24 := cellOf hb2 4; have q2l := box_lt hb2; have q2h := hide hb2; clear hb2)
          | (go_at_call 58; refine (errors2v _ 0 0 0 _ (by simp) (by simp) (by simp)).mono ?_; rintro e w3 ⟨rfl, rfl⟩))
      refine (peak_any (w2.heap.size + 1) g g.limit _ cs _ (heap_new _ _ _ (by simp)) HOK.out (((H2.out.below (Below.allocT (Below.allocT (Below.refl _ _) (Nat.le_refl _) _) (Nat.le_refl _) _)).more (by omega))) HG.out HG.out.limit0 HG.out.limit1).mono ?_
      rintro e w5 ⟨rfl, hgr⟩
      have HGR := hide hgr
      clear hgr
      go_wp2
      go_ret2
      refine ⟨by simp [peakVal, peakErr, hg, hok], ?_⟩
      exact below_only (Below.allocT (Below.allocT hW2 (Nat.le_refl _) _) (Nat.le_refl _) _) HGR.out (by have := hW2.size; omega)
    · have hci := cycI' hok
      go_enter Try.func28, Try.ntmps28
      go_wp2_with (first
          | (go_at_call 48; refine (checkGauge_any g _).mono ?_; rw [hgi]; rintro e w1 ⟨rfl, hB1⟩
             have hW1 : Below w.heap.size w w1 := (by repeat (first | exact Below.refl _ _ | assumption | refine Below.drew ?_ | refine Below.drewN ?_ _ | refine Below.allocT ?_ (Nat.le_refl _) _ | refine Below.setCell ?_ (by simp <;> omega) _ | refine Below.to ?_ (by assumption) (Nat.le_refl _)))
             have H1 : Cyc w1 w1.heap.size (.slice A0 cs.length cap0) cs := (H.out.below hW1).more hW1.size
             have H1 := hide H1)
          | (go_at_call 59; refine (checkCycle_any _ cs _ hn H1.out).mono ?_; rw [hci]; rintro e w2 ⟨rfl, hB2⟩
             have hW2 : Below w.heap.size w w2 := (by repeat (first | exact Below.refl _ _ | assumption | refine Below.drew ?_ | refine Below.drewN ?_ _ | refine Below.allocT ?_ (Nat.le_refl _) _ | refine Below.setCell ?_ (by simp <;> omega) _ | refine Below.to ?_ (by assumption) (Nat.le_refl _))))
          | (go_at_call 58; refine (errors2v _ 0 71 71 _ (by simp) (by simp) (by simp)).mono ?_; rintro e w3 ⟨rfl, rfl⟩))
      go_ret2
      exact ⟨by simp [peakVal, peakErr, hg, hok], (by repeat (first | exact Below.refl _ _ | assumption | refine Below.drew ?_ | refine Below.drewN ?_ _ | refine Below.allocT ?_ (Nat.le_refl _) _ | refine Below.setCell ?_ (by simp <;> omega) _ | refine Below.to ?_ (by assumption) (Nat.le_refl _)))⟩
  · have hgi : (if g.ok = true then (0 : Int) else 70) = 70 := if_neg hg
    obtain ⟨ce, hce⟩ : ∃ ce, cycErr cs = ce := ⟨_, rfl⟩
    go_enter Try.func28, Try.ntmps28
    go_wp2_with (first
          | (go_at_call 48; refine (checkGauge_any g _).mono ?_; rw [hgi]; rintro e w1 ⟨rfl, hB1⟩
             have hW1 : Below w.heap.size w w1 := (by repeat (first | exact Below.refl _ _ | assumption | refine Below.drew ?_ | refine Below.drewN ?_ _ | refine Below.allocT ?_ (Nat.le_refl _) _ | refine Below.setCell ?_ (by simp <;> omega) _ | refine Below.to ?_ (by assumption) (Nat.le_refl _)))
             have H1 : Cyc w1 w1.heap.size (.slice A0 cs.length cap0) cs := (H.out.below hW1).more hW1.size
             have H1 := hide H1)
          | (go_at_call 59; refine (checkCycle_any _ cs _ hn H1.out).mono ?_; rw [hce]; rintro e w2 ⟨rfl, hB2⟩
             have hW2 : Below w.heap.size w w2 := (by repeat (first | exact Below.refl _ _ | assumption | refine Below.drew ?_ | refine Below.drewN ?_ _ | refine Below.allocT ?_ (Nat.le_refl _) _ | refine Below.setCell ?_ (by simp <;> omega) _ | refine Below.to ?_ (by assumption) (Nat.le_refl _))))
          | (go_at_call 58; refine (errors2v _ 70 ce 70 _ (by simp) (by simp) (by simp)).mono ?_; rintro e w3 ⟨rfl, rfl⟩))
    go_ret2
    exact ⟨by simp [peakVal, peakErr, hg], (by repeat (first | exact Below.refl _ _ | assumption | refine Below.drew ?_ | refine Below.drewN ?_ _ | refine Below.allocT ?_ (Nat.le_refl _) _ | refine Below.setCell ?_ (by simp <;> omega) _ | refine Below.to ?_ (by assumption) (Nat.le_refl _)))⟩
end Go.Proofs.Ytejjjijaojkohaa

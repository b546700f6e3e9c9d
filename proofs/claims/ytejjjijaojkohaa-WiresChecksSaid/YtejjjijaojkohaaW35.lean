/- The check of a wiring: the reference's walk. -/
import Derived.Test.YtejjjijaojkohaaRows
import Derived.Test.YtejjjijaojkohaaW33
import Derived.Deep.CutRange
namespace Go.Proofs.Ytejjjijaojkohaa
open Go.RowKit
set_option linter.unusedVariables false
set_option linter.unusedSimpArgs false

set_option maxRecDepth 100000 in
set_option maxHeartbeats 4000000 in
theorem rCheck_any (gs : List Ga) (fs : List Fu) (es : List Fe) (gv fv ev : Value) (w : World) (hz : WSz gs fs es) (h : Wir w w.heap.size gv fv ev gs fs es) :
    Calls Try.prog 42 #[.agg #[gv, fv, ev]] w fun e w' => e = .returned (.int .i64 (chkErr gs fs es)) ∧ Below w.heap.size w w' := by
  have H := hide h
  obtain ⟨A0, cap0, rfl⟩ := Sl.form h.g
  obtain ⟨A1, b1, off1, cap1, rfl, hnc1, hA1, hc1⟩ := h.f
  obtain ⟨cv, hsl, hcy⟩ := h.e
  obtain ⟨A, b, off, cap, rfl, hnc, hA, hc⟩ := hsl
  have HC := hide hc
  have HA := hide hA
  have HC1 := hide hc1
  have HA1 := hide hA1
  have HCY := hide hcy
  have HZ_ := hide hz
  have hg30 := hz.g
  have hf30 := hz.f
  have he30 := hz.e
  clear h hc hA hc1 hA1 hcy hz
  obtain ⟨bg, hbg⟩ : ∃ d, bigB gs fs es = d := ⟨_, rfl⟩
  obtain ⟨tb, htb⟩ : ∃ d, tableB gs = d := ⟨_, rfl⟩
  have HBG := hide hbg
  have HTB := hide htb
  have hcases : (decide ((20 : Int) < (gs.length : Int)) = true ∧ bg = true) ∨ (decide ((20 : Int) < (gs.length : Int)) = false ∧ decide ((20 : Int) < (fs.length : Int)) = true ∧ bg = true) ∨ (decide ((20 : Int) < (gs.length : Int)) = false ∧ decide ((20 : Int) < (fs.length : Int)) = false ∧ decide ((20 : Int) < (es.length : Int)) = bg) := by
    rw [← hbg]
    unfold bigB
    simp only [decide_eq_true_eq, decide_eq_false_iff_not, Bool.or_eq_true]
    by_cases h1 : 20 < gs.length
    · exact .inl ⟨by omega, .inl (.inl h1)⟩
    · by_cases h2 : 20 < fs.length
      · exact .inr (.inl ⟨by omega, by omega, .inl (.inr h2)⟩)
      · refine .inr (.inr ⟨by omega, by omega, ?_⟩)
        rw [show decide (20 < gs.length) = false by simpa using h1, show decide (20 < fs.length) = false by simpa using h2, Bool.false_or, Bool.false_or, decide_eq_decide]
        omega
  clear hbg htb
  go_enter Try.func42, Try.ntmps42
  go_upto_region 1 with (fail)
  generalize hw0 : World.alloc _ _ = w0
  obtain ⟨hb0, hB0, hs0⟩ := alloc1 hw0
  clear hw0
  have hwi : WiAt w0 w.heap.size (.slice A0 gs.length cap0) (.slice A1 fs.length cap1) (.slice A es.length cap) := hb0
  have hl0 : w.heap.size < w0.heap.size := by omega
  clear hs0
  obtain ⟨k0, k1, k2, _⟩ := wi3 hwi (Below.refl _ w0)
  go_cut [21] from 6 to 83 (fun t wc => t = .bool bg ∧ w0 = wc)
  case first =>
    rcases hcases with ⟨h1, rfl⟩ | ⟨h1, h2, rfl⟩ | ⟨h1, h2, h3⟩
    all_goals
      go_wp2_with fail
      go_meet
      case rel => exact ⟨rfl, rfl⟩
  case rest =>
    obtain ⟨rfl, rfl⟩ := hcut
    have HBw := hide hB0
    have HWI := hide hwi
    clear hB0 hwi hb0
    cases bg with
    | true =>
      go_wp2_with fail
      go_ret
      exact ⟨ret_int (by unfold chkErr; rw [HBG.out]; rfl), HBw.out⟩
    | false =>
      have HCE : Hid (chkErr gs fs es = if tb then if fusB fs then if fesB gs fs es then 0 else 71 else 72 else 70) := by show _ = _; unfold chkErr; rw [HBG.out, HTB.out]; rfl
      go_wp2_with fail
      refine (table_any _ gs _ (by unfold maxLen; omega) (H.out.g.below HBw.out |>.more HBw.out.size)).mono ?_
      rw [HTB.out]
      rintro e w1 ⟨rfl, hB1⟩
      have HB1 := hide hB1
      clear hB1 k0 k1 k2
      cases tb with
      | false =>
        go_wp2_with fail
        go_ret
        exact ⟨ret_int (by rw [HCE.out]; rfl), Below.to HBw.out HB1.out (Nat.le_refl _)⟩
      | true =>
        go_wp2_with fail
        go_loopw [3] (fun i wr => ∃ k : Nat, k ≤ fs.length ∧ i = .int .i64 k ∧ Hid (∀ j, j < k → (!(fs.getD j Fu.z).ok) = false) ∧ Hid (Below w1.heap.size w1 wr)) (fun i _ => fs.length - (intOf i).toNat)
        case atStart => exact ⟨0, Nat.zero_le _, rfl, fun j hj => by omega, Below.refl _ _⟩
        case round =>
          obtain ⟨k, hk, rfl, hz, hB⟩ := hrel
          have HBr : Hid (Below w0.heap.size w0 wr) := Below.to HB1.out hB.out (Nat.le_refl _)
          have HBq : Hid (Below w.heap.size w wr) := Below.to HBw.out HBr.out (Nat.le_refl _)
          obtain ⟨k0, k1, k2, _⟩ := wi3 HWI.out HBr.out
          by_cases hlt : k < fs.length
          · obtain ⟨f, HZ, hA1, hbw, h0, h1⟩ := fuAtB HBq.out HA1.out HC1.out hlt
            subst hA1
            cases hok : f.ok
            · have HOK := hide hok
              clear hok
              go_wp2_with (go_at_call 56; refine (fuse_any f _).mono ?_; rw [HOK.out]; rintro e w2 ⟨rfl, hB2⟩)
              go_ret
              exact ⟨ret_int (by rw [HCE.out, show fusB fs = false from by unfold fusB; rw [any_at _ Fu.z fs k hlt (by rw [HZ.out, HOK.out]; rfl)]; rfl]; rfl), Below.to HBq.out hB2 (Nat.le_refl _)⟩
            · have HOK := hide hok
              clear hok
              go_wp2_with (go_at_call 56; refine (fuse_any f _).mono ?_; rw [HOK.out]; rintro e w2 ⟨rfl, hB2⟩)
              go_roundw
              case rel => exact ⟨k + 1, by omega, by go_num, fun j hj => by
                  rcases Nat.lt_or_ge j k with h | h
                  · exact hz.out j h
                  · rw [show j = k from by omega, HZ.out, HOK.out]; rfl, Below.to hB.out hB2 (Nat.le_refl _)⟩
              case measure => simp [intOf]; omega
          · have HFU : Hid (fusB fs = true) := by show _ = _; unfold fusB; rw [any_none _ Fu.z fs (fun j hj => hz.out j (by omega))]; rfl
            have HCE2 : Hid (chkErr gs fs es = if fesB gs fs es then 0 else 71) := by show _ = _; rw [HCE.out, HFU.out]; rfl
            go_wp2_with fail
            clear k0 k1 k2
            obtain ⟨wx, rfl⟩ : ∃ wx : World, wx = wr := ⟨_, rfl⟩
            go_loopw [4, 5] (fun i _ wr => ∃ k : Nat, k ≤ es.length ∧ i = .int .i64 k ∧ Hid (∀ j, j < k → feOk gs fs es j = true) ∧ Hid (Below wx.heap.size wx wr)) (fun i _ _ => es.length - (intOf i).toNat)
            case atStart => exact ⟨0, Nat.zero_le _, rfl, fun j hj => by omega, Below.refl _ _⟩
            case round =>
              obtain ⟨k, hk, rfl, hz, hB⟩ := hrel
              have HBr2 : Hid (Below w0.heap.size w0 wr) := Below.to HBr.out hB.out (Nat.le_refl _)
              have HBq2 : Hid (Below w.heap.size w wr) := Below.to HBw.out HBr2.out (Nat.le_refl _)
              obtain ⟨k0, k1, k2, _⟩ := wi3 HWI.out HBr2.out
              by_cases hlt : k < es.length
              · obtain ⟨f, C, cp, HZ, hA1, hbw, h0, h1, h2, h3, h4, h5, h6, hy⟩ := feAtB HBq2.out HA.out HC.out HCY.out hlt
                subst hA1
                have HN20 : Hid (f.cs.length ≤ 20) := by show _; have := HZ_.out.c k hlt; rw [HZ.out] at this; exact this
                obtain ⟨c1, hb1⟩ : ∃ x, fromB f.par (-1) ((k : Int) - 1) = x := ⟨_, rfl⟩
                obtain ⟨c2, hb2⟩ : ∃ x, fromB f.gauge 0 ((gs.length : Int) - 1) = x := ⟨_, rfl⟩
                obtain ⟨c3, hb3⟩ : ∃ x, fromB f.fuse 0 ((fs.length : Int) - 1) = x := ⟨_, rfl⟩
                obtain ⟨c4, hb4⟩ : ∃ x, needOk f.n f.cs = x := ⟨_, rfl⟩
                have HS : Hid (feOk gs fs es k = (c1 && c2 && c3 && c4)) := by show _ = _; unfold feOk; rw [HZ.out, hb1, hb2, hb3, hb4]
                have HD1 := hide hb1
                have HD2 := hide hb2
                have HD3 := hide hb3
                have HD4 := hide hb4
                clear hb1 hb2 hb3 hb4
                go_upto_region 14 with (fail)
                generalize hw5 : World.alloc _ _ = w5
                obtain ⟨hb5, hB5, hs5⟩ := alloc1 hw5
                clear hw5 h0 h1 h2 h3 h4 h5 h6 k0 k1 k2
                have HB5 := hide hB5
                have HBs : Hid (Below w0.heap.size w0 w5) := Below.to HBr2.out hB5 (Nat.le_refl _)
                obtain ⟨k0, k1, k2, _⟩ := wi3 HWI.out HBs.out
                have m0 := cellOf hb5 0
                have m1 := cellOf hb5 1
                have m2 := cellOf hb5 2
                have m3 := cellOf hb5 3
                have m4 := cellOf hb5 4
                have m5 := cellOf hb5 5
                have m6 := cellOf hb5 6
                have HCY5 : Hid (Cyc w5 w5.heap.size (.slice C f.cs.length cp) f.cs) := Sl.more (Sl.below hy.out ((show Below w.heap.size wr w5 from hB5.mono HBq2.out.size))) (by have := HBq2.out.size; have := hB5.size; omega)
                clear hb5 hB5 hs5
                cases c1
                · go_wp2_with (go_at_call 52; refine (from_any _ _ _ _).mono ?_; (first | rw [HD1.out] | rw [HD2.out] | rw [HD3.out]); rintro e w' ⟨rfl, rfl⟩)
                  go_ret
                  exact ⟨ret_int (by rw [HCE2.out, fesB_at hlt (by rw [HS.out]; rfl)]; rfl), Below.to HBq2.out HB5.out (Nat.le_refl _)⟩
                · cases c2
                  · go_wp2_with (go_at_call 52; refine (from_any _ _ _ _).mono ?_; (first | rw [HD1.out] | rw [HD2.out] | rw [HD3.out]); rintro e w' ⟨rfl, rfl⟩)
                    go_ret
                    exact ⟨ret_int (by rw [HCE2.out, fesB_at hlt (by rw [HS.out]; rfl)]; rfl), Below.to HBq2.out HB5.out (Nat.le_refl _)⟩
                  · cases c3
                    · go_wp2_with (go_at_call 52; refine (from_any _ _ _ _).mono ?_; (first | rw [HD1.out] | rw [HD2.out] | rw [HD3.out]); rintro e w' ⟨rfl, rfl⟩)
                      go_ret
                      exact ⟨ret_int (by rw [HCE2.out, fesB_at hlt (by rw [HS.out]; rfl)]; rfl), Below.to HBq2.out HB5.out (Nat.le_refl _)⟩
                    · cases c4
                      · go_wp2_with (first | (go_at_call 52; refine (from_any _ _ _ _).mono ?_; (first | rw [HD1.out] | rw [HD2.out] | rw [HD3.out]); rintro e w' ⟨rfl, rfl⟩) | (go_at_call 74; refine (rneed_any f.n _ f.cs _ HN20.out HCY5.out).mono ?_; rw [HD4.out]; rintro e w6 ⟨rfl, hB6⟩))
                        go_ret
                        exact ⟨ret_int (by rw [HCE2.out, fesB_at hlt (by rw [HS.out]; rfl)]; rfl), Below.to (Below.to HBq2.out HB5.out (Nat.le_refl _)) hB6 (Nat.le_refl _)⟩
                      · go_wp2_with (first | (go_at_call 52; refine (from_any _ _ _ _).mono ?_; (first | rw [HD1.out] | rw [HD2.out] | rw [HD3.out]); rintro e w' ⟨rfl, rfl⟩) | (go_at_call 74; refine (rneed_any f.n _ f.cs _ HN20.out HCY5.out).mono ?_; rw [HD4.out]; rintro e w6 ⟨rfl, hB6⟩))
                        go_roundw
                        case rel => exact ⟨k + 1, by omega, by go_num, fun j hj => by
                            rcases Nat.lt_or_ge j k with h | h
                            · exact hz.out j h
                            · rw [show j = k from by omega, HS.out]; rfl, Below.to (Below.to hB.out HB5.out (Nat.le_refl _)) hB6 (Nat.le_refl _)⟩
                        case measure => simp [intOf]; omega
              · go_wp2
                go_ret
                exact ⟨ret_int (by rw [HCE2.out, fesB_all (fun j hj => hz.out j (by omega))]; rfl), HBq2.out⟩
end Go.Proofs.Ytejjjijaojkohaa

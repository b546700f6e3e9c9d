/- Part 41 of this claim's texts: walks and plain laws. -/
import Derived.Test.YtmabfnddedffoaaRows
import Derived.Test.YtmabfnddedffoaaGLF40
import Derived.Test.YtmabfnddedffoaaGLF30
import Derived.Deep.RegionHeld3
import Derived.Deep.DrawnRows
import Derived.BigQuiet
import Derived.Test.YtmabfnddedffoaaGLF12
/- Carried, both: walks. -/
namespace Go.Proofs.Ytmabfnddedffoaa
open Go.RowKit
set_option linter.unusedVariables false
set_option linter.unusedSimpArgs false
theorem carE_ok {l : Lo} {run : Int} {v : List Bool} (h : carE l run v = 0) : LoOk l ∧ 0 ≤ run ∧ run < (l.us.length : Int) ∧ v.length = l.m.opts.length := by
  obtain ⟨h1, h2⟩ := havE_ok h
  rw [Bool.and_eq_true] at h2
  obtain ⟨h3, h4⟩ := btw_iff.1 h2.1
  exact ⟨h1, h3, by omega, by simpa using h2.2⟩
theorem carL_thru {l : Lo} {run : Int} {v : List Bool} (h : carE l run v = 0) : carL l run v = (thruL l run.toNat).filter (inB l v) := by
  unfold carL thruL
  rw [if_pos h, filter_filter6]
theorem carL_len (l : Lo) (run : Int) (v : List Bool) : (carL l run v).length ≤ l.ws.length := by
  unfold carL
  split
  · exact filter_range_len _ _
  · simp
theorem carL_mem {l : Lo} {run : Int} {v : List Bool} {i : Nat} (h : i ∈ carL l run v) : i < l.ws.length := by
  unfold carL at h
  split at h
  · have := (List.mem_filter.1 h).1
    simpa using this
  · simp at h
theorem alloc3x {w w0 : World} {o p q : Obj} (h : ((w.alloc o).alloc p).alloc q = w0) : w0.heap[w.heap.size]? = some o ∧ w0.heap[w.heap.size + 1]? = some p ∧ w0.heap[w.heap.size + 2]? = some q ∧ Below w.heap.size w w0 ∧ w0.heap.size = w.heap.size + 3 := by
  have hw : allocs w [o, p, q] = w0 := h
  subst hw
  exact ⟨allocs_get w _ 0 (by simp), allocs_get w _ 1 (by simp), allocs_get w _ 2 (by simp), allocs_below w _ (Nat.le_refl _) _, allocs_size w _⟩
theorem take_filter (p : Nat → Bool) {T : List Nat} {k i : Nat} (hk : k < T.length) (hi : T.getD k 0 = i) : (T.take (k + 1)).filter p = if p i then (T.take k).filter p ++ [i] else (T.take k).filter p := by
  rw [take_snoc hk, hi, List.filter_append]
  cases h : p i <;> simp [h]
set_option maxRecDepth 100000 in
set_option maxHeartbeats 4000000 in
theorem Carried_any (run : Int) (v : List Bool) (Av : Option Addr) (qv : Nat) (A0 A1 A2 A3 A4 A5 : Option Addr) (q0 q1 q2 q3 q4 q5 : Nat) (l : Lo) (w : World) (hs : SizedL l) (h : LoA w w.heap.size A0 A1 A2 A3 A4 A5 q0 q1 q2 q3 q4 q5 l) (hv : Bols w w.heap.size (.slice Av v.length qv) v) :
    Calls Try.prog 36 #[.agg #[.slice A0 l.m.opts.length q0, .slice A1 l.m.rules.length q1, .slice A2 l.ss.length q2, .slice A3 l.us.length q3, .slice A4 l.ps.length q4, .slice A5 l.ws.length q5], .int .i64 run, .slice Av v.length qv] w (TigP (carL l run v) (carE l run v) w) := by
  obtain ⟨i0, hi0, iz0, iz1, iz2⟩ := info_parts infoInt
  have H := hide h
  have HS := hide hs
  have HV := hide hv
  have hu := hs.u
  obtain ⟨z, hz⟩ : ∃ z, carE l run v = z := ⟨_, rfl⟩
  have HZ := hide hz
  clear h hs hv
  by_cases hz0 : z = 0
  case neg =>
    have hL : carL l run v = [] := by unfold carL; rw [if_neg (by rw [hz]; exact hz0)]
    rw [hz, hL]
    have hz1 : (z != 0) = true := by simpa using hz0
    clear hz hz0 hL
    go_enter Try.func36, Try.ntmps36
    go_upto_region 1 with (fail)
    generalize hw0 : World.alloc _ _ = w0
    obtain ⟨hb0, hb1, hb2, hB0, hs0⟩ := alloc3x hw0
    have c0 := cellOf hb0 0; have c1 := cellOf hb0 1; have c2 := cellOf hb0 2; have c3 := cellOf hb0 3; have c4 := cellOf hb0 4; have c5 := cellOf hb0 5
    have hlb := box_lt hb0
    have hhv := have_carried (.pointer (some ⟨w.heap.size + 1, 0, none⟩)) (.pointer (some ⟨w.heap.size, 0, none⟩)) (.pointer (some ⟨w.heap.size + 2, 0, none⟩)) (btw run 0 ((l.us.length : Int) - 1) && decide (v.length = l.m.opts.length)) A0 A1 A2 A3 A4 A5 q0 q1 q2 q3 q4 q5 l w0 HS.out (H.out.up hB0) (fun _ W hW => carried1_any run v Av qv A0 A1 A2 A3 A4 A5 q0 q1 q2 q3 q4 q5 l _ _ _ W hu (box_to hb1 hW) (box_to hb2 hW) (LoBox.to hb0 hW))
    rw [show havE l (btw run 0 ((l.us.length : Int) - 1) && decide (v.length = l.m.opts.length)) = z from HZ.out] at hhv
    have HHV := hide hhv
    have HB0 := hide hB0
    clear hw0 hb0 hb1 hb2 hB0 hs0 hhv
    go_wp2_with (go_at_call 82; refine HHV.out.mono ?_; rintro e w1 ⟨rfl, hB1⟩; have HB1 := hide (Below.to HB0.out hB1 (Nat.le_refl _)); clear hB1)
    go_ret2
    exact ⟨_, rfl, Sl.nil _ _ _ _, HB1.out⟩
  case pos =>
  subst hz0
  obtain ⟨ok, r0, r1, -⟩ := carE_ok hz
  have hcl := carL_thru hz
  rw [hz]
  obtain ⟨kr, rfl⟩ := Int.eq_ofNat_of_zero_le r0
  rw [Int.toNat_natCast] at hcl
  have hkr : kr < l.us.length := by omega
  have OK := hide ok
  have w60 := ok.w60
  obtain ⟨T, hT⟩ : ∃ T, thruL l kr = T := ⟨_, rfl⟩
  rw [hT] at hcl
  have hTm : ∀ i ∈ T, i < l.ws.length := fun i hi => thruL_mem (by rw [hT]; exact hi)
  have hTl : T.length ≤ 60 := by rw [← hT]; exact Nat.le_trans (thruL_len l kr) w60
  have HT := hide hT
  have HTM := hide hTm
  have HCL := hide hcl
  clear hz ok r0 r1 hT hTm hcl
  go_enter Try.func36, Try.ntmps36
  go_upto_region 1 with (fail)
  generalize hw0 : World.alloc _ _ = w0
  obtain ⟨hb0, hb1, hb2, hB0, hs0⟩ := alloc3x hw0
  have c0 := cellOf hb0 0; have c1 := cellOf hb0 1; have c2 := cellOf hb0 2; have c3 := cellOf hb0 3; have c4 := cellOf hb0 4; have c5 := cellOf hb0 5
  have hlb := box_lt hb0
  have hhv := have_carried (.pointer (some ⟨w.heap.size + 1, 0, none⟩)) (.pointer (some ⟨w.heap.size, 0, none⟩)) (.pointer (some ⟨w.heap.size + 2, 0, none⟩)) (btw (kr : Int) 0 ((l.us.length : Int) - 1) && decide (v.length = l.m.opts.length)) A0 A1 A2 A3 A4 A5 q0 q1 q2 q3 q4 q5 l w0 HS.out (H.out.up hB0) (fun _ W hW => carried1_any kr v Av qv A0 A1 A2 A3 A4 A5 q0 q1 q2 q3 q4 q5 l _ _ _ W hu (box_to hb1 hW) (box_to hb2 hW) (LoBox.to hb0 hW))
  rw [show havE l (btw (kr : Int) 0 ((l.us.length : Int) - 1) && decide (v.length = l.m.opts.length)) = 0 from HZ.out] at hhv
  have HHV := hide hhv
  have HB0 := hide hB0
  have HL0 : Hid (LoBox w0 w.heap.size A0 A1 A2 A3 A4 A5 q0 q1 q2 q3 q4 q5 l) := hb0
  have HR0 := hide hb1
  have HW0 := hide hb2
  clear hw0 hb0 hb1 hb2 hB0 hs0 hhv
  go_wp2_with (first | (go_at_call 82; refine HHV.out.mono ?_; rintro e w1 ⟨rfl, hB1⟩; have e0 := cellOf (HL0.out.to hB1) 0; have e1 := cellOf (HL0.out.to hB1) 1; have e2 := cellOf (HL0.out.to hB1) 2; have e3 := cellOf (HL0.out.to hB1) 3; have e4 := cellOf (HL0.out.to hB1) 4; have e5 := cellOf (HL0.out.to hB1) 5; have f0 := cellOf (box_to HR0.out hB1) 0; have lb1 := box_lt (HL0.out.to hB1); have lr1 := box_lt (box_to HR0.out hB1); have HL1 := hide (HL0.out.to hB1); have HW1 := hide (box_to HW0.out hB1); have HB1 := hide (Below.to HB0.out hB1 (Nat.le_refl _)); clear hB1 c0 c1 c2 c3 c4 c5 hlb) | (go_at_call 110; refine (through_any kr A0 A1 A2 A3 A4 A5 q0 q1 q2 q3 q4 q5 l _ (H.out.up HB1.out) OK.out hkr).mono ?_; rw [HT.out]; rintro e w2 ⟨v2, rfl, hn2, hB2⟩; obtain ⟨At, qt, hv2⟩ := Sl.form hn2; subst hv2; have HN2 := hide hn2; have HL2 := hide (HL1.out.to hB2); have HW2 := hide (box_to HW1.out hB2); have HB2 := hide (Below.to HB1.out hB2 (Nat.le_refl _)); clear hn2 hB2 e0 e1 e2 e3 e4 e5 f0 lb1 lr1))
  go_loopw [9, 11, 22] (fun o _ i wr => ∃ (k : Nat) (A : Option Addr) (cap : Nat) (S : List Nat), i = .int .i64 k ∧ o = .slice A S.length cap ∧ k ≤ T.length ∧ Hid ((T.take k).filter (inB l v) = S) ∧ Hid (Below w2.heap.size w2 wr) ∧ Hid (ReaS w wr w2.heap.size w.heap.size A0 A1 A2 A3 A4 A5 q0 q1 q2 q3 q4 q5 l (.slice A S.length cap) S)) (fun _ _ i _ => T.length - (intOf i).toNat)
  case atStart => exact ⟨0, _, _, [], rfl, rfl, Nat.zero_le _, rfl, Below.refl _ _, ReaS.mk' HB2.out HL2.out (World.ownsRow_nil _ _ _ _) ⟨HB2.out.size, Nat.le_refl _⟩⟩
  case round =>
    obtain ⟨k, A, cap, S, rfl, rfl, hk, HSs, HBr, R⟩ := hrel
    have hSl : S.length ≤ 60 := by
      rw [← HSs.out]
      refine Nat.le_trans (List.length_filter_le _ _) ?_
      simp
      omega
    by_cases hkl : k < T.length
    · obtain ⟨bt, ot, rfl, hbt, _, ct⟩ := (HN2.out.up HBr.out).at hkl
      have hqt := Nods.cap HN2.out
      obtain ⟨i, hi⟩ : ∃ i, T.getD k 0 = i := ⟨_, rfl⟩
      have hil : i < l.ws.length := HTM.out i (by rw [← hi]; exact getD_mem3 hkl)
      rw [hi] at ct
      have htf := take_filter (inB l v) hkl hi
      rw [HSs.out] at htf
      have HTF := hide htf
      have ik : (k : Int) < (T.length : Int) := by omega
      have iqt : (T.length : Int) ≤ (qt : Int) := by omega
      have hin := in_any i v Av qv A0 A1 A2 A3 A4 A5 q0 q1 q2 q3 q4 q5 l wr HS.out (H.out.up R.out.below) (Sl.up HV.out R.out.below) hil w60
      have d0 := cellOf R.out.box 0; have d1 := cellOf R.out.box 1; have d2 := cellOf R.out.box 2; have d3 := cellOf R.out.box 3; have d4 := cellOf R.out.box 4; have d5 := cellOf R.out.box 5
      have ld := box_lt R.out.box
      have hwb := box_to HW2.out HBr.out
      have u0 := cellOf hwb 0
      have lu := box_lt hwb
      clear hi htf hqt hwb
      cases hb : inB l v i with
      | false =>
        rw [hb] at hin HTF
        have HIN := hide hin
        clear hb hin
        go_wp2_with (go_at_call 111; refine HIN.out.mono ?_; rintro e w3 ⟨rfl, hB3⟩; have R3 := hide (R.out.to hB3); have HB3 := hide (Below.to HBr.out hB3 (Nat.le_refl _)); clear hB3 d0 d1 d2 d3 d4 d5 ld u0 lu ct)
        go_roundw
        case rel => exact ⟨k + 1, _, _, S, by go_num, rfl, by omega, HTF.out.trans (if_neg (by simp)), HB3.out, R3.out⟩
        case measure => simp [intOf]; omega
      | true =>
        rw [hb] at hin HTF
        have HIN := hide hin
        clear hb hin
        go_wp2_with (first | (go_at_call 111; refine HIN.out.mono ?_; rintro e w3' ⟨rfl, hB3⟩; have R3 := hide (R.out.to hB3); have HB3 := hide (Below.to HBr.out hB3 (Nat.le_refl _)); clear hB3 d0 d1 d2 d3 d4 d5 ld u0 lu ct) | (at_builtin; go_must (refine wpList_append_own_at _ rfl (.tmp 30) (.tmp 32) _ rfl (w2.heap.size) 3 i0 _ 1 8 Try.underlying41 hi0 iz0 iz1 iz2 rfl (by omega) _ _ _ rfl ((R3.out.own).alloc _) ⟨w3'.heap.size, 0, none⟩ 1 1 [.int .i64 (i : Nat)] rfl rfl (World.news_of_block (heap_alloc_new w3' _)) (by simp [Value.oneCell']) (by have h1 := hSl; unfold maxLen; omega) (by have h1 := hSl; omega) (by have h1 := R3.out.lt.2; simp; omega) ?_); intro v1 w3 hown1 hg1 _ hat1; obtain ⟨A6', cap6, hv6⟩ := owns_form hown1; subst hv6; have R5 := hide (R3.out.push hown1 hg1); have HB4 := hide (own_low HB3.out R3.out.own (Nat.le_refl _) hg1); clear hown1 hg1 hat1))
        go_roundw
        case rel => exact ⟨k + 1, A6', cap6, S ++ [i], by go_num, by rw [List.length_append, List.length_singleton], by omega, HTF.out.trans (by simp), HB4.out, by rw [List.length_append, List.length_singleton]; exact R5.out⟩
        case measure => simp [intOf]; omega
    · have hke : k = T.length := by omega
      subst hke
      have hS := HSs.out
      rw [List.take_length] at hS
      have HS2 := hide hS
      clear hS
      go_wp2_with fail
      go_ret2
      exact ⟨_, rfl, by rw [HCL.out, HS2.out]; exact R.out.nd, R.out.below⟩
set_option maxRecDepth 100000 in
set_option maxHeartbeats 4000000 in
theorem rCarried_any (run : Int) (v : List Bool) (Av : Option Addr) (qv : Nat) (A0 A1 A2 A3 A4 A5 : Option Addr) (q0 q1 q2 q3 q4 q5 : Nat) (l : Lo) (w : World) (hs : SizedL l) (h : LoA w w.heap.size A0 A1 A2 A3 A4 A5 q0 q1 q2 q3 q4 q5 l) (hv : Bols w w.heap.size (.slice Av v.length qv) v) :
    Calls Try.prog 38 #[.agg #[.slice A0 l.m.opts.length q0, .slice A1 l.m.rules.length q1, .slice A2 l.ss.length q2, .slice A3 l.us.length q3, .slice A4 l.ps.length q4, .slice A5 l.ws.length q5], .int .i64 run, .slice Av v.length qv] w (TigP (carL l run v) (carE l run v) w) := by
  obtain ⟨i0, hi0, iz0, iz1, iz2⟩ := info_parts infoInt
  have H := hide h
  have HS := hide hs
  have HV := hide hv
  obtain ⟨y, hy⟩ : ∃ y, wrsE l run = y := ⟨_, rfl⟩
  have HY := hide hy
  have hce : carE l run v = if wrsE l run ≠ 0 then wrsE l run else if v.length ≠ l.m.opts.length then 1 else 0 := by
    unfold carE wrsE havE
    by_cases h1 : l.err = 0
    · have h1' : ¬ (l.err ≠ 0) := by simp [h1]
      rw [if_neg h1', if_neg h1']
      cases btw run 0 ((l.us.length : Int) - 1) with
      | false => simp [mustE]
      | true =>
        by_cases h2 : v.length = l.m.opts.length <;> simp [mustE, h2]
    · rw [if_pos h1, if_pos h1, if_pos h1]
  rw [hy] at hce
  clear h hs hv hy
  by_cases hy0 : y = 0
  case neg =>
    have hcz : carE l run v = y := by rw [hce, if_pos hy0]
    have hL : carL l run v = [] := by unfold carL; rw [if_neg (by rw [hcz]; exact hy0)]
    rw [hcz, hL]
    have hz1 : (y != 0) = true := by simpa using hy0
    clear hce hcz hL hy0
    go_enter Try.func38, Try.ntmps38
    go_upto_region 1 with (fail)
    generalize hw0 : World.alloc _ _ = w0
    obtain ⟨hb0, hB0, hs0⟩ := alloc1 hw0
    have c0 := cellOf hb0 0; have c1 := cellOf hb0 1; have c2 := cellOf hb0 2; have c3 := cellOf hb0 3; have c4 := cellOf hb0 4; have c5 := cellOf hb0 5
    have hlb := box_lt hb0
    have HB0 := hide hB0
    clear hw0 hb0 hB0 hs0
    go_wp2_with (go_at_call 85; refine (running_any run A0 A1 A2 A3 A4 A5 q0 q1 q2 q3 q4 q5 l _ HS.out (H.out.up HB0.out)).mono ?_; rw [HY.out]; rintro e w1 ⟨rfl, hB1⟩; have HB1 := hide (Below.to HB0.out hB1 (Nat.le_refl _)); clear hB1 c0 c1 c2 c3 c4 c5 hlb)
    go_ret2
    exact ⟨_, rfl, Sl.nil _ _ _ _, HB1.out⟩
  case pos =>
  subst hy0
  rw [if_neg (by simp)] at hce
  by_cases hvl : v.length = l.m.opts.length
  case neg =>
    rw [if_pos hvl] at hce
    have hL : carL l run v = [] := by unfold carL; rw [if_neg (by rw [hce]; decide)]
    rw [hce, hL]
    have g1 : ((v.length : Int) != (l.m.opts.length : Int)) = true := by simp; omega
    clear hce hL hvl
    go_enter Try.func38, Try.ntmps38
    go_upto_region 1 with (fail)
    generalize hw0 : World.alloc _ _ = w0
    obtain ⟨hb0, hB0, hs0⟩ := alloc1 hw0
    have HL0 : Hid (LoBox w0 w.heap.size A0 A1 A2 A3 A4 A5 q0 q1 q2 q3 q4 q5 l) := hb0
    have c0 := cellOf hb0 0; have c1 := cellOf hb0 1; have c2 := cellOf hb0 2; have c3 := cellOf hb0 3; have c4 := cellOf hb0 4; have c5 := cellOf hb0 5
    have hlb := box_lt hb0
    have HB0 := hide hB0
    clear hw0 hb0 hB0 hs0
    go_wp2_with (go_at_call 85; refine (running_any run A0 A1 A2 A3 A4 A5 q0 q1 q2 q3 q4 q5 l _ HS.out (H.out.up HB0.out)).mono ?_; rw [HY.out]; rintro e w1 ⟨rfl, hB1⟩; have d0 := cellOf (HL0.out.to hB1) 0; have d1 := cellOf (HL0.out.to hB1) 1; have d2 := cellOf (HL0.out.to hB1) 2; have d3 := cellOf (HL0.out.to hB1) 3; have d4 := cellOf (HL0.out.to hB1) 4; have d5 := cellOf (HL0.out.to hB1) 5; have ld := box_lt (HL0.out.to hB1); have HB1 := hide (Below.to HB0.out hB1 (Nat.le_refl _)); clear hB1 c0 c1 c2 c3 c4 c5 hlb)
    go_ret2
    exact ⟨_, rfl, Sl.nil _ _ _ _, HB1.out⟩
  case pos =>
  rw [if_neg (by simp [hvl])] at hce
  obtain ⟨ok, r0, r1, -⟩ := carE_ok hce
  have hcl : carL l run v = (List.range l.ws.length).filter (fun i => thruB l run.toNat i && inB l v i) := by unfold carL; rw [if_pos hce]
  rw [hce]
  obtain ⟨kr, rfl⟩ := Int.eq_ofNat_of_zero_le r0
  rw [Int.toNat_natCast] at hcl
  have hkr : kr < l.us.length := by omega
  have OK := hide ok
  have w60 := ok.w60
  have g1 : ((v.length : Int) != (l.m.opts.length : Int)) = false := by simp [hvl]
  have HCL := hide hcl
  clear hce ok r0 r1 hcl hvl
  go_enter Try.func38, Try.ntmps38
  go_upto_region 1 with (fail)
  generalize hw0 : World.alloc _ _ = w0
  obtain ⟨hb0, hB0, hs0⟩ := alloc1 hw0
  have HL0 : Hid (LoBox w0 w.heap.size A0 A1 A2 A3 A4 A5 q0 q1 q2 q3 q4 q5 l) := hb0
  have c0 := cellOf hb0 0; have c1 := cellOf hb0 1; have c2 := cellOf hb0 2; have c3 := cellOf hb0 3; have c4 := cellOf hb0 4; have c5 := cellOf hb0 5
  have hlb := box_lt hb0
  have HB0 := hide hB0
  clear hw0 hb0 hB0 hs0
  go_wp2_with (go_at_call 85; refine (running_any kr A0 A1 A2 A3 A4 A5 q0 q1 q2 q3 q4 q5 l _ HS.out (H.out.up HB0.out)).mono ?_; rw [HY.out]; rintro e w2 ⟨rfl, hB1⟩; have d0 := cellOf (HL0.out.to hB1) 0; have d1 := cellOf (HL0.out.to hB1) 1; have d2 := cellOf (HL0.out.to hB1) 2; have d3 := cellOf (HL0.out.to hB1) 3; have d4 := cellOf (HL0.out.to hB1) 4; have d5 := cellOf (HL0.out.to hB1) 5; have ld := box_lt (HL0.out.to hB1); have HL2 := hide (HL0.out.to hB1); have HB2 := hide (Below.to HB0.out hB1 (Nat.le_refl _)); clear hB1 c0 c1 c2 c3 c4 c5 hlb)
  clear d0 d1 d2 d3 d4 d5 ld
  go_loopw [9, 10] (fun o i wr => ∃ (k : Nat) (A : Option Addr) (cap : Nat) (S : List Nat), i = .int .i64 k ∧ o = .slice A S.length cap ∧ k ≤ l.ws.length ∧ Hid ((List.range k).filter (fun i => thruB l kr i && inB l v i) = S) ∧ Hid (Below w2.heap.size w2 wr) ∧ Hid (ReaS w wr w2.heap.size w.heap.size A0 A1 A2 A3 A4 A5 q0 q1 q2 q3 q4 q5 l (.slice A S.length cap) S)) (fun _ i _ => l.ws.length - (intOf i).toNat)
  case atStart => exact ⟨0, _, _, [], rfl, rfl, Nat.zero_le _, rfl, Below.refl _ _, ReaS.mk' HB2.out HL2.out (World.ownsRow_nil _ _ _ _) ⟨HB2.out.size, Nat.le_refl _⟩⟩
  case round =>
    obtain ⟨k, A, cap, S, rfl, rfl, hk, HSs, HBr, R⟩ := hrel
    have hSl : S.length ≤ 60 := by rw [← HSs.out]; exact Nat.le_trans (filter_range_len _ _) (by omega)
    have d0 := cellOf R.out.box 0; have d1 := cellOf R.out.box 1; have d2 := cellOf R.out.box 2; have d3 := cellOf R.out.box 3; have d4 := cellOf R.out.box 4; have d5 := cellOf R.out.box 5
    have ld := box_lt R.out.box
    by_cases hkl : k < l.ws.length
    · have hhas := has_any k v Av qv A0 A1 A2 A3 A4 A5 q0 q1 q2 q3 q4 q5 l wr HS.out (H.out.up R.out.below) (Sl.up HV.out R.out.below) hkl w60
      have hfr := filter_range_succ (fun i => thruB l kr i && inB l v i) k
      rw [HSs.out] at hfr
      have HFR := hide hfr
      clear hfr
      cases hb : inB l v k with
      | false =>
        rw [hb] at hhas
        have HHAS := hide hhas
        have HX : Hid ((thruB l kr k && inB l v k) = false) := by show _ = _; rw [hb, Bool.and_false]
        clear hb hhas
        go_wp2_with (go_at_call 112; refine HHAS.out.mono ?_; rintro e w3 ⟨rfl, hB3⟩; have R3 := hide (R.out.to hB3); have HB3 := hide (Below.to HBr.out hB3 (Nat.le_refl _)); clear hB3 d0 d1 d2 d3 d4 d5 ld)
        go_roundw
        case rel => exact ⟨k + 1, _, _, S, by go_num, rfl, by omega, HFR.out.trans (if_neg (by simp [HX.out])), HB3.out, R3.out⟩
        case measure => simp [intOf]; omega
      | true =>
        rw [hb] at hhas
        have HHAS := hide hhas
        cases ht : thruB l kr k with
        | false =>
          have HX : Hid ((thruB l kr k && inB l v k) = false) := by show _ = _; rw [ht, Bool.false_and]
          have HTT := hide ht
          clear hb hhas ht
          go_wp2_with (first | (go_at_call 112; refine HHAS.out.mono ?_; rintro e w3' ⟨rfl, hB3⟩; have R3 := hide (R.out.to hB3); have HB3 := hide (Below.to HBr.out hB3 (Nat.le_refl _)); have e0 := cellOf (R.out.to hB3).box 0; have e1 := cellOf (R.out.to hB3).box 1; have e2 := cellOf (R.out.to hB3).box 2; have e3 := cellOf (R.out.to hB3).box 3; have e4 := cellOf (R.out.to hB3).box 4; have e5 := cellOf (R.out.to hB3).box 5; have le := box_lt (R.out.to hB3).box; clear hB3 d0 d1 d2 d3 d4 d5 ld) | (go_at_call 113; refine (uses_any k kr A0 A1 A2 A3 A4 A5 q0 q1 q2 q3 q4 q5 l _ (H.out.up R3.out.below) OK.out hkl hkr).mono ?_; rw [HTT.out]; rintro e w4' ⟨rfl, hB4⟩; have R4 := hide (R3.out.to hB4); have HB4 := hide (Below.to HB3.out hB4 (Nat.le_refl _)); clear hB4 e0 e1 e2 e3 e4 e5 le))
          go_roundw
          case rel => exact ⟨k + 1, _, _, S, by go_num, rfl, by omega, HFR.out.trans (if_neg (by simp [HX.out])), HB4.out, R4.out⟩
          case measure => simp [intOf]; omega
        | true =>
          have HX : Hid ((thruB l kr k && inB l v k) = true) := by show _ = _; rw [ht, hb]; rfl
          have HTT := hide ht
          clear hb hhas ht
          go_wp2_with (first | (go_at_call 112; refine HHAS.out.mono ?_; rintro e w3' ⟨rfl, hB3⟩; have R3 := hide (R.out.to hB3); have HB3 := hide (Below.to HBr.out hB3 (Nat.le_refl _)); have e0 := cellOf (R.out.to hB3).box 0; have e1 := cellOf (R.out.to hB3).box 1; have e2 := cellOf (R.out.to hB3).box 2; have e3 := cellOf (R.out.to hB3).box 3; have e4 := cellOf (R.out.to hB3).box 4; have e5 := cellOf (R.out.to hB3).box 5; have le := box_lt (R.out.to hB3).box; clear hB3 d0 d1 d2 d3 d4 d5 ld) | (go_at_call 113; refine (uses_any k kr A0 A1 A2 A3 A4 A5 q0 q1 q2 q3 q4 q5 l _ (H.out.up R3.out.below) OK.out hkl hkr).mono ?_; rw [HTT.out]; rintro e w4' ⟨rfl, hB4⟩; have R4 := hide (R3.out.to hB4); have HB4 := hide (Below.to HB3.out hB4 (Nat.le_refl _)); clear hB4 e0 e1 e2 e3 e4 e5 le) | (at_builtin; go_must (refine wpList_append_own_at _ rfl (.tmp 41) (.tmp 43) _ rfl (w2.heap.size) 3 i0 _ 1 8 Try.underlying41 hi0 iz0 iz1 iz2 rfl (by omega) _ _ _ rfl ((R4.out.own).alloc _) ⟨w4'.heap.size, 0, none⟩ 1 1 [.int .i64 (k : Nat)] rfl rfl (World.news_of_block (heap_alloc_new w4' _)) (by simp [Value.oneCell']) (by have h1 := hSl; unfold maxLen; omega) (by have h1 := hSl; omega) (by have h1 := R4.out.lt.2; simp; omega) ?_); intro v1 w3 hown1 hg1 _ hat1; obtain ⟨A6', cap6, hv6⟩ := owns_form hown1; subst hv6; have R5 := hide (R4.out.push hown1 hg1); have HB5 := hide (own_low HB4.out R4.out.own (Nat.le_refl _) hg1); clear hown1 hg1 hat1))
          go_roundw
          case rel => exact ⟨k + 1, A6', cap6, S ++ [k], by go_num, by rw [List.length_append, List.length_singleton], by omega, HFR.out.trans (if_pos HX.out), HB5.out, by rw [List.length_append, List.length_singleton]; exact R5.out⟩
          case measure => simp [intOf]; omega
    · have hke : k = l.ws.length := by omega
      subst hke
      go_wp2_with fail
      go_ret2
      exact ⟨_, rfl, by rw [HCL.out, HSs.out]; exact R.out.nd, R.out.below⟩
end Go.Proofs.Ytmabfnddedffoaa
/- Fill, both: walks. -/
namespace Go.Proofs.Ytmabfnddedffoaa
open Go.RowKit
set_option linter.unusedVariables false
set_option linter.unusedSimpArgs false
/-- The sum of the sizes of some wires. -/
def filN (l : Lo) (T : List Nat) : Int := (szsL l T).sum
theorem filN_snoc (l : Lo) (T : List Nat) (k : Nat) : filN l (T ++ [k]) = filN l T + (l.ws.getD k Wi.o).size := by
  unfold filN
  rw [szsL_snoc, List.sum_append]
  simp
theorem sz_ok {l : Lo} (ok : LoOk l) {i : Nat} (hi : i < l.ws.length) : 1 ≤ (l.ws.getD i Wi.o).size ∧ (l.ws.getD i Wi.o).size ≤ 10000 := by
  have h := (LoOk.wi ok hi).1
  unfold wiOk at h
  simp only [Bool.and_eq_true, btw_iff] at h
  exact h.2
theorem filN_le {l : Lo} (ok : LoOk l) : ∀ {T : List Nat}, (∀ i ∈ T, i < l.ws.length) → 0 ≤ filN l T ∧ filN l T ≤ 10000 * T.length
  | [], _ => by simp [filN, szsL]
  | i :: T, h => by
    have h1 := filN_le ok (T := T) fun j hj => h j (by simp [hj])
    have h2 := sz_ok ok (h i (by simp))
    have h3 : filN l (i :: T) = (l.ws.getD i Wi.o).size + filN l T := by simp [filN, szsL]
    rw [h3, List.length_cons]
    omega
theorem carL_err {l : Lo} {run : Int} {v : List Bool} (h : carE l run v ≠ 0) : carL l run v = [] := by
  unfold carL
  rw [if_neg h]
/-- A number and an error. -/
def FilP (n er : Int) (w : World) (e : Ending) (w' : World) : Prop := e = .returned (.tuple #[.int .i64 n, .int .i64 er]) ∧ Below w.heap.size w w'
set_option maxRecDepth 100000 in
set_option maxHeartbeats 4000000 in
theorem Fill_any (run : Int) (v : List Bool) (Av : Option Addr) (qv : Nat) (A0 A1 A2 A3 A4 A5 : Option Addr) (q0 q1 q2 q3 q4 q5 : Nat) (l : Lo) (w : World) (hs : SizedL l) (h : LoA w w.heap.size A0 A1 A2 A3 A4 A5 q0 q1 q2 q3 q4 q5 l) (hv : Bols w w.heap.size (.slice Av v.length qv) v) :
    Calls Try.prog 39 #[.agg #[.slice A0 l.m.opts.length q0, .slice A1 l.m.rules.length q1, .slice A2 l.ss.length q2, .slice A3 l.us.length q3, .slice A4 l.ps.length q4, .slice A5 l.ws.length q5], .int .i64 run, .slice Av v.length qv] w (FilP (filN l (carL l run v)) (carE l run v) w) := by
  have H := hide h
  have HS := hide hs
  have HV := hide hv
  obtain ⟨T, hT⟩ : ∃ T, carL l run v = T := ⟨_, rfl⟩
  obtain ⟨z, hz⟩ : ∃ z, carE l run v = z := ⟨_, rfl⟩
  have hTb : ∀ i ∈ T, LoOk l := by
    intro i hi
    by_cases h0 : carE l run v = 0
    · exact (carE_ok h0).1
    · rw [← hT, carL_err h0] at hi
      simp at hi
  have hTm : ∀ i ∈ T, i < l.ws.length := fun i hi => carL_mem (by rw [hT]; exact hi)
  have hTl : T.length ≤ 60 := by
    cases hc : T with
    | nil => simp
    | cons a t =>
      have ok := hTb a (by simp [hc])
      rw [← hc, ← hT]
      exact Nat.le_trans (carL_len l run v) ok.w60
  rw [hT, hz]
  have HT := hide hT
  have HZ := hide hz
  have HTB := hide hTb
  have HTM := hide hTm
  clear h hs hv hT hz hTb hTm
  go_enter Try.func39, Try.ntmps39
  go_upto_region 1 with (fail)
  generalize hw0 : World.alloc _ _ = w0
  obtain ⟨hb0, hB0, hs0⟩ := alloc1 hw0
  have c0 := cellOf hb0 0; have c1 := cellOf hb0 1; have c2 := cellOf hb0 2; have c3 := cellOf hb0 3; have c4 := cellOf hb0 4; have c5 := cellOf hb0 5
  have hlb := box_lt hb0
  have HB0 := hide hB0
  have HL0 : Hid (LoBox w0 w.heap.size A0 A1 A2 A3 A4 A5 q0 q1 q2 q3 q4 q5 l) := hb0
  clear hw0 hb0 hB0 hs0
  go_wp2_with (go_at_call 36; refine (Carried_any run v Av qv A0 A1 A2 A3 A4 A5 q0 q1 q2 q3 q4 q5 l _ HS.out (H.out.up HB0.out) (Sl.up HV.out HB0.out)).mono ?_; rw [HT.out, HZ.out]; rintro e w2 ⟨v2, rfl, hn2, hB2⟩; obtain ⟨At, qt, hv2⟩ := Sl.form hn2; subst hv2; have HN2 := hide hn2; have HL2 := hide (HL0.out.to hB2); have HB2 := hide (Below.to HB0.out hB2 (Nat.le_refl _)); clear hn2 hB2 c0 c1 c2 c3 c4 c5 hlb)
  go_loopw [10, 12, 22] (fun o _ i wr => ∃ (k : Nat) (s : Int), i = .int .i64 k ∧ o = .int .i64 s ∧ k ≤ T.length ∧ Hid (filN l (T.take k) = s) ∧ Hid (Below w2.heap.size w2 wr)) (fun _ _ i _ => T.length - (intOf i).toNat)
  case atStart => exact ⟨0, 0, rfl, rfl, Nat.zero_le _, rfl, Below.refl _ _⟩
  case round =>
    obtain ⟨k, s, rfl, rfl, hk, HSs, HBr⟩ := hrel
    by_cases hkl : k < T.length
    · obtain ⟨bt, ot, rfl, hbt, _, ct⟩ := (HN2.out.up HBr.out).at hkl
      have hqt := Nods.cap HN2.out
      obtain ⟨i, hi⟩ : ∃ i, T.getD k 0 = i := ⟨_, rfl⟩
      have him : i ∈ T := by rw [← hi]; exact getD_mem3 hkl
      have ok := HTB.out i him
      have hil := HTM.out i him
      have hsz := sz_ok ok hil
      have hts := take_snoc hkl
      rw [hi] at hts ct
      have hsb := filN_le ok (T := T.take k) fun j hj => HTM.out j (List.mem_of_mem_take hj)
      rw [HSs.out, List.length_take] at hsb
      have hnew : filN l (T.take (k + 1)) = s + (l.ws.getD i Wi.o).size := by rw [hts, filN_snoc, HSs.out]
      obtain ⟨bw, offw, x, Af, qf, HX, rfl, hbw, hq5, HFO, _, _, _, _, _, e5, e6⟩ := H.out.wi hil
      rw [HX.out] at hsz hnew
      have HNEW := hide hnew
      have hBw := Below.to HB2.out HBr.out (Nat.le_refl _)
      have z5 := (hBw.cell (p := ⟨bw, offw + i * 7 + 5, none⟩) hbw).trans e5
      have lbw : bw < wr.heap.size := Nat.lt_of_lt_of_le hbw hBw.size
      have y5 := cellOf (box_to HL2.out HBr.out) 5
      have ly := box_lt (box_to HL2.out HBr.out)
      have ik : (k : Int) < (T.length : Int) := by omega
      have iqt : (T.length : Int) ≤ (qt : Int) := by omega
      have ii : (i : Int) < (l.ws.length : Int) := by omega
      have iq : (l.ws.length : Int) ≤ (q5 : Int) := by omega
      have hmin : min k T.length ≤ 60 := by omega
      have hsl : 0 ≤ s ∧ s ≤ 600000 := by omega
      clear hi him hqt hts hsb hnew hBw e5 e6 hmin
      go_wp2_with fail
      go_roundw
      case rel => exact ⟨k + 1, s + x.size, by go_num, by go_num, by omega, HNEW.out, HBr.out⟩
      case measure => simp [intOf]; omega
    · have hke : k = T.length := by omega
      subst hke
      have hS := HSs.out
      rw [List.take_length] at hS
      have HS2 := hide hS
      clear hS
      go_wp2_with fail
      go_ret2
      refine ⟨?_, Below.to HB2.out HBr.out (Nat.le_refl _)⟩
      rw [HS2.out]
      rfl
set_option maxRecDepth 100000 in
set_option maxHeartbeats 4000000 in
theorem rFill_any (run : Int) (v : List Bool) (Av : Option Addr) (qv : Nat) (A0 A1 A2 A3 A4 A5 : Option Addr) (q0 q1 q2 q3 q4 q5 : Nat) (l : Lo) (w : World) (hs : SizedL l) (h : LoA w w.heap.size A0 A1 A2 A3 A4 A5 q0 q1 q2 q3 q4 q5 l) (hv : Bols w w.heap.size (.slice Av v.length qv) v) :
    Calls Try.prog 40 #[.agg #[.slice A0 l.m.opts.length q0, .slice A1 l.m.rules.length q1, .slice A2 l.ss.length q2, .slice A3 l.us.length q3, .slice A4 l.ps.length q4, .slice A5 l.ws.length q5], .int .i64 run, .slice Av v.length qv] w (FilP (filN l (carL l run v)) (carE l run v) w) := by
  have H := hide h
  have HS := hide hs
  have HV := hide hv
  obtain ⟨T, hT⟩ : ∃ T, carL l run v = T := ⟨_, rfl⟩
  obtain ⟨z, hz⟩ : ∃ z, carE l run v = z := ⟨_, rfl⟩
  by_cases hz0 : z = 0
  case neg =>
    have hT0 : T = [] := by rw [← hT]; exact carL_err (by rw [hz]; exact hz0)
    subst hT0
    rw [hT, hz]
    have hz1 : (z != 0) = true := by simpa using hz0
    have HT := hide hT
    have HZ := hide hz
    clear h hs hv hT hz hz0
    go_enter Try.func40, Try.ntmps40
    go_upto_region 1 with (fail)
    generalize hw0 : World.alloc _ _ = w0
    obtain ⟨hb0, hB0, hs0⟩ := alloc1 hw0
    have c0 := cellOf hb0 0; have c1 := cellOf hb0 1; have c2 := cellOf hb0 2; have c3 := cellOf hb0 3; have c4 := cellOf hb0 4; have c5 := cellOf hb0 5
    have hlb := box_lt hb0
    have HB0 := hide hB0
    clear hw0 hb0 hB0 hs0
    go_wp2_with (go_at_call 38; refine (rCarried_any run v Av qv A0 A1 A2 A3 A4 A5 q0 q1 q2 q3 q4 q5 l _ HS.out (H.out.up HB0.out) (Sl.up HV.out HB0.out)).mono ?_; rw [HT.out, HZ.out]; rintro e w2 ⟨v2, rfl, hn2, hB2⟩; obtain ⟨At, qt, hv2⟩ := Sl.form hn2; subst hv2; have HB2 := hide (Below.to HB0.out hB2 (Nat.le_refl _)); clear hn2 hB2 c0 c1 c2 c3 c4 c5 hlb)
    go_ret2
    exact ⟨rfl, HB2.out⟩
  case pos =>
  subst hz0
  have ok := (carE_ok hz).1
  have hTm : ∀ i ∈ T, i < l.ws.length := fun i hi => carL_mem (by rw [hT]; exact hi)
  have hTl : T.length ≤ 60 := by rw [← hT]; exact Nat.le_trans (carL_len l run v) ok.w60
  rw [hT, hz]
  have HT := hide hT
  have HZ := hide hz
  have OK := hide ok
  have HTM := hide hTm
  clear h hs hv hT hz ok hTm
  go_enter Try.func40, Try.ntmps40
  go_upto_region 1 with (fail)
  generalize hw0 : World.alloc _ _ = w0
  obtain ⟨hb0, hB0, hs0⟩ := alloc1 hw0
  have c0 := cellOf hb0 0; have c1 := cellOf hb0 1; have c2 := cellOf hb0 2; have c3 := cellOf hb0 3; have c4 := cellOf hb0 4; have c5 := cellOf hb0 5
  have hlb := box_lt hb0
  have HB0 := hide hB0
  have HL0 : Hid (LoBox w0 w.heap.size A0 A1 A2 A3 A4 A5 q0 q1 q2 q3 q4 q5 l) := hb0
  clear hw0 hb0 hB0 hs0
  go_wp2_with (go_at_call 38; refine (rCarried_any run v Av qv A0 A1 A2 A3 A4 A5 q0 q1 q2 q3 q4 q5 l _ HS.out (H.out.up HB0.out) (Sl.up HV.out HB0.out)).mono ?_; rw [HT.out, HZ.out]; rintro e w2 ⟨v2, rfl, hn2, hB2⟩; obtain ⟨At, qt, hv2⟩ := Sl.form hn2; subst hv2; have HN2 := hide hn2; have HL2 := hide (HL0.out.to hB2); have HB2 := hide (Below.to HB0.out hB2 (Nat.le_refl _)); clear hn2 hB2 c0 c1 c2 c3 c4 c5 hlb)
  go_loopw [10, 11] (fun o i wr => ∃ (k : Nat) (s : Int), i = .int .i64 k ∧ o = .int .i64 s ∧ k ≤ T.length ∧ Hid (filN l (T.take k) = s) ∧ Hid (Below w2.heap.size w2 wr)) (fun _ i _ => T.length - (intOf i).toNat)
  case atStart => exact ⟨0, 0, rfl, rfl, Nat.zero_le _, rfl, Below.refl _ _⟩
  case round =>
    obtain ⟨k, s, rfl, rfl, hk, HSs, HBr⟩ := hrel
    by_cases hkl : k < T.length
    · obtain ⟨bt, ot, rfl, hbt, _, ct⟩ := (HN2.out.up HBr.out).at hkl
      have hqt := Nods.cap HN2.out
      obtain ⟨i, hi⟩ : ∃ i, T.getD k 0 = i := ⟨_, rfl⟩
      have him : i ∈ T := by rw [← hi]; exact getD_mem3 hkl
      have hil := HTM.out i him
      have hsz := sz_ok OK.out hil
      have hts := take_snoc hkl
      rw [hi] at hts ct
      have hsb := filN_le OK.out (T := T.take k) fun j hj => HTM.out j (List.mem_of_mem_take hj)
      rw [HSs.out, List.length_take] at hsb
      have hnew : filN l (T.take (k + 1)) = s + (l.ws.getD i Wi.o).size := by rw [hts, filN_snoc, HSs.out]
      obtain ⟨bw, offw, x, Af, qf, HX, rfl, hbw, hq5, HFO, _, _, _, _, _, e5, e6⟩ := H.out.wi hil
      rw [HX.out] at hsz hnew
      have HNEW := hide hnew
      have hBw := Below.to HB2.out HBr.out (Nat.le_refl _)
      have z5 := (hBw.cell (p := ⟨bw, offw + i * 7 + 5, none⟩) hbw).trans e5
      have lbw : bw < wr.heap.size := Nat.lt_of_lt_of_le hbw hBw.size
      have y5 := cellOf (box_to HL2.out HBr.out) 5
      have ly := box_lt (box_to HL2.out HBr.out)
      have ik : (k : Int) < (T.length : Int) := by omega
      have iqt : (T.length : Int) ≤ (qt : Int) := by omega
      have ii : (i : Int) < (l.ws.length : Int) := by omega
      have iq : (l.ws.length : Int) ≤ (q5 : Int) := by omega
      have hmin : min k T.length ≤ 60 := by omega
      have hsl : 0 ≤ s ∧ s ≤ 600000 := by omega
      have hwr : IntKind.i64.wrap (s + x.size) = s + x.size := IntWalk.i64_in _ (by omega)
      clear hi him hqt hts hsb hnew hBw e5 e6 hmin
      go_upto_region 8 with (fail)
      go_region
      go_wp2_with fail
      go_roundw
      case rel => exact ⟨k + 1, s + x.size, by go_num, by first | rfl | go_num, by omega, HNEW.out, Below.drew HBr.out⟩
      case measure => simp [intOf]; omega
    · have hke : k = T.length := by omega
      subst hke
      have hS := HSs.out
      rw [List.take_length] at hS
      have HS2 := hide hS
      clear hS
      go_wp2_with fail
      go_ret2
      refine ⟨?_, Below.to HB2.out HBr.out (Nat.le_refl _)⟩
      rw [HS2.out]
      rfl
end Go.Proofs.Ytmabfnddedffoaa
/- The laws' looms, opened: no condition. -/
namespace Go.Proofs.Ytmabfnddedffoaa
open Go.Joins Go.ChangeShapes Go.WideShapes Go.ChangeAt Go.RowKit Go.Deep
set_option maxRecDepth 100000
set_option linter.unusedVariables false
set_option linter.unusedSimpArgs false
section
variable {H : Type} {enc : TypeId × Value → H} {W : World} {base b0 : Nat} {r : Reach} {spare : Nat → Bool} {held : Bool} {v : Value} {d : DataW H} {p : List MemPlace}
theorem open_lo (hv : Value.okWide Try.prog W r b0 31 v) (h : DataW.Trod enc Try.prog W base spare held 31 v d p) :
    ∃ (A0 A1 A2 A3 A4 A5 : Option Addr) (q0 q1 q2 q3 q4 q5 : Nat), ∃ l : Lo, v = .agg #[.slice A0 l.m.opts.length q0, .slice A1 l.m.rules.length q1, .slice A2 l.ss.length q2, .slice A3 l.us.length q3, .slice A4 l.ps.length q4, .slice A5 l.ws.length q5] ∧ LoA W W.heap.size A0 A1 A2 A3 A4 A5 q0 q1 q2 q3 q4 q5 l ∧ SizedL l := by
  obtain ⟨ov, rv, sv, uv, pv, wv, l, rfl, hl, hs, _⟩ := open_loom hv h
  obtain ⟨A0, A1, A2, A3, A4, A5, q0, q1, q2, q3, q4, q5, rfl, rfl, rfl, rfl, rfl, rfl, hla⟩ := hl.form
  exact ⟨A0, A1, A2, A3, A4, A5, q0, q1, q2, q3, q4, q5, l, rfl, hla, hs⟩
theorem open_int (hv : Value.okWide Try.prog W r b0 3 v) (h : DataW.Trod enc Try.prog W base spare held 3 v d p) : ∃ n : Int, v = .int .i64 n ∧ I64 n := by
  obtain ⟨n, rfl, _⟩ := okWide_int Try.underlying3 hv
  obtain ⟨fuel, hf⟩ := h
  obtain ⟨a, e, ha⟩ := int_cell hf
  simp at e
  subst e
  exact ⟨n, rfl, ha⟩
end
end Go.Proofs.Ytmabfnddedffoaa

/- Part 15 of this claim's texts: walks and plain laws. -/
import Derived.Test.YtmgfijadjclmpaaRows
import Derived.Test.YtmgfijadjclmpaaGTC14
import Derived.Deep.DeepMust
import Derived.Deep.RegionHeld3
import Derived.Deep.DrawnRows
import Derived.Test.YtmgfijadjclmpaaGTC13
import Derived.Laws.Bits64b
import Derived.Laws.CopyOwn
/- The ages in a play without an error: walk of chain.Play. -/
namespace Go.Proofs.Ytmgfijadjclmpaa
open Go.RowKit
set_option linter.unusedVariables false
set_option linter.unusedSimpArgs false
def rwF (a : List (List Int)) (i k : Nat) : Int := (a.getD i []).getD k 0
def rwN (b : List (List Int)) (i : Nat) : Nat := (b.getD i []).length
theorem infoIntP : (Try.prog.info? 3).map (fun i => (i.zero, i.size, i.bytes)) = some (some (.int .i64 0), 1, 8) := by kernel_rfl
/-- What Play of a chain answers. -/
def CpP (n : Nat) (a b : List (List Int)) (w : World) (e : Ending) (w' : World) : Prop :=
  ∃ (v : Value) (us : List Int), e = .returned (.tuple #[v, .int .i64 0]) ∧ us.length = rwN b n ∧ (∀ k, k < us.length → us.getD k 0 = ageN (rwF a) (rwF b) (rwN b) n k) ∧ Ints w' w'.heap.size v us ∧ Below w.heap.size w w'
theorem lastR_here {e : Nat → Int} {t : Int} {m : Nat} (h : e m ≤ t) : lastR e t (m + 1) = m := if_pos h
theorem lastR_down {e : Nat → Int} {t : Int} {m : Nat} (h : ¬ e m ≤ t) : lastR e t (m + 1) = lastR e t m := if_neg h
theorem runN_down {a b : Nat → Nat → Int} {n : Nat → Nat} {i : Nat} {r : Int} (h : 0 ≤ r) : runN a b n (i + 1) r = runN a b n i (lastR (b i) (a (i + 1) r.toNat) (n i)) := if_neg (by omega)
set_option maxRecDepth 100000 in
set_option maxHeartbeats 8000000 in
theorem CPlay_any (v x y : Value) (ss : List Stp) (a b : List (List Int)) (w : World) (h : Sts w w.heap.size v ss) (hk : StsOk ss) (ha : Rws w w.heap.size x a) (hb : Rws w w.heap.size y b) (ok : PyOk ss a b) :
    Calls Try.prog 10 #[v, x, y] w (CpP (ss.length - 1) a b w) := by
  have hck := checkPlay_any v x y ss a b w h hk ha hb ok
  obtain ⟨i0, hi0, iz0, iz1, iz2⟩ := info_parts infoIntP
  have hl := hk.l10
  have hl1 := hk.l1
  obtain ⟨A, q, rfl⟩ := h.form
  obtain ⟨Aa, qa, rfl⟩ := ha.form
  obtain ⟨Ab, qb, rfl⟩ := hb.form
  have hla := ok.la
  have hlb := ok.lb
  rw [hla, hlb] at hck ⊢
  rw [hla] at ha
  rw [hlb] at hb
  obtain ⟨n, hn⟩ : ∃ n, ss.length - 1 = n := ⟨_, rfl⟩
  have hnl : n < ss.length := by omega
  have wn1 : IntKind.i64.wrap ((ss.length : Int) - 1) = (n : Int) := by
    rw [IntWalk.i64_in _ (by omega)]
    omega
  have wn2 : IntKind.i64.wrap (n : Int) = (n : Int) := IntWalk.i64_in _ (by omega)
  have in0 : (0 : Int) ≤ (n : Int) := by omega
  have in1 : (n : Int) < (ss.length : Int) := by omega
  rw [hn]
  have HA := hide ha
  have HB0 := hide hb
  have OK := hide ok
  have HK := hide hk
  have HLA := hide hla
  have HLB := hide hlb
  have HCK := hide hck
  have HN := hide hn
  clear h hk ha hb ok hck hla hlb hn
  go_enter Try.func10, Try.ntmps10
  go_upto_region 5 with (go_at_call 25; refine HCK.out.mono ?_; rintro e w1 ⟨rfl, hB1⟩; have HB1 := hide hB1; clear hB1)
  obtain ⟨b2, o2, Ar, qr, r2, HR2, hA2, hb2, hq2, HI2, e2⟩ := (HB0.out.up HB1.out).at (k := n) (by rw [HLB.out]; exact hnl)
  subst hA2
  have i2 : (ss.length : Int) ≤ (qb : Int) := by rw [HLB.out] at hq2; omega
  have hr5 : r2.length ≤ 500 := by have := (OK.out.row n hnl).2; rw [HR2.out] at this; exact this
  have HRN : Hid (rwN b n = r2.length) := by show rwN b n = _; unfold rwN; rw [HR2.out]
  have i3 : (r2.length : Int) ≤ (qr : Int) := by
    have := HI2.out
    obtain ⟨A', b', off', cap', h1, h2, _⟩ := this
    injection h1 with _ _ h3
    omega
  obtain ⟨W1, hW1⟩ : ∃ wo : World, wo = w1 := ⟨_, rfl⟩
  subst hW1
  clear hq2
  go_wp2_with fail
  clear e2 hb2
  go_loopw [6, 10, 11, 12, 13, 14, 30] (fun ov _ _ _ _ _ kv wr => ∃ (k : Nat) (us : List Int) (A9 : Option Addr) (q9 : Nat), kv = .int .i64 k ∧ ov = .slice A9 us.length q9 ∧ k ≤ r2.length ∧ Hid (us.length = k) ∧ Hid (∀ j, j < k → us.getD j 0 = ageN (rwF a) (rwF b) (rwN b) n j) ∧ Hid (wr.ownsRow W1.heap.size 3 1 (.slice A9 us.length q9) us.length (us.map (Value.int .i64))) ∧ Hid (Below W1.heap.size W1 wr)) (fun _ _ _ _ _ _ kv _ => r2.length - (intOf kv).toNat)
  case atStart => exact ⟨0, [], none, 0, rfl, rfl, Nat.zero_le _, rfl, fun j hj => by omega, World.ownsRow_nil _ _ _ _, Below.refl _ _⟩
  case round =>
    obtain ⟨k, us, A9, q9, rfl, rfl, hkl, HUL, HUS, HO, HB⟩ := hrel
    by_cases hlt : k < r2.length
    case neg =>
      have hlt1 : ¬ (k : Int) < (r2.length : Int) := by omega
      go_wp2_with fail
      go_ret2
      exact ⟨_, us, rfl, by rw [HUL.out, HRN.out]; omega, fun j hj => HUS.out j (by rw [HUL.out] at hj; exact hj), ints_of_ownT HO.out, Below.to HB1.out HB.out (Nat.le_refl _)⟩
    case pos =>
    have hlt1 : (k : Int) < (r2.length : Int) := by omega
    have ik0 : (0 : Int) ≤ (k : Int) := by omega
    obtain ⟨b4, o4, xe, HXE, hA4, hb4, hq4, g4⟩ := ints_atT (ints_upT HI2.out HB.out) hlt
    subst hA4
    have husl : us.length ≤ 500 := by rw [HUL.out]; omega
    obtain ⟨T, hT⟩ : ∃ z, runN (rwF a) (rwF b) (rwN b) n (k : Int) = z := ⟨_, rfl⟩
    have HT := hide hT
    have hrun := OK.out.run n k hnl (by rw [HR2.out]; exact hlt)
    rw [HR2.out, HXE.out] at hrun
    have hen := HK.out.ok n hnl
    have hke : (0 : Int) ≤ k * (ss.getD n Stp.o).e := Int.mul_nonneg (by omega) (by have := hen.e0; omega)
    have hke2 : (k : Int) * (ss.getD n Stp.o).e ≤ 500 * 100000 := Int.mul_le_mul (by omega) hen.e1 (by have := hen.e0; omega) (by omega)
    have hxe0 : 0 ≤ xe := by omega
    have hxe1 : xe ≤ 100000000 := by have := hen.r1; omega
    clear hrun hen hke hke2 hT hq4
    obtain ⟨Wk, hWk⟩ : ∃ wo : World, wo = wr := ⟨_, rfl⟩
    subst hWk
    go_wp2_with fail
    clear g4 hb4
    go_loopw [12, 13, 14] (fun rv iv _ wr => ∃ (i : Nat) (r : Int), rv = .int .i64 r ∧ iv = .int .i64 i ∧ i ≤ n ∧ -1 ≤ r ∧ r ≤ 500 ∧ Hid (runN (rwF a) (rwF b) (rwN b) i r = T) ∧ Hid (0 ≤ r → r < rwN b i) ∧ Hid (Below Wk.heap.size Wk wr)) (fun _ iv _ _ => (intOf iv).toNat)
    case atStart => exact ⟨n, k, rfl, rfl, Nat.le_refl _, by omega, by omega, HT.out, fun _ => by rw [HRN.out]; omega, Below.refl _ _⟩
    case round =>
      obtain ⟨i, r, rfl, rfl, hin, hr0, hr1, HRT, HRI, HBi⟩ := hrel
      have HO2 := hide (owns_below HO.out HBi.out)
      have HB2 := hide (Below.to HB.out HBi.out (Nat.le_refl _))
      by_cases hipos : 0 < i
      case neg =>
        have di1 : decide ((0 : Int) < (i : Int)) = false := by simp; omega
        have di2 : decide (0 < i) = false := by simp; omega
        have hi9 : i = 0 := by omega
        have hTr : Hid (T = r) := by
          show T = r
          rw [← HRT.out, hi9]
          rfl
        have HRI0 : Hid (0 ≤ r → r < rwN b 0) := by
          have := HRI.out
          rw [hi9] at this
          exact this
        clear hi9 hipos
        by_cases hrn : r < 0
        · have dr : decide (r < 0) = true := by simpa using hrn
          have hage : ageN (rwF a) (rwF b) (rwN b) n k = -1 := by unfold ageN; rw [HT.out, hTr.out, if_pos hrn]
          have HAGE := hide hage
          clear hage
          go_wp2_with (at_builtin; go_must (refine wpList_append_own_at _ rfl (.tmp 77) (.tmp 78) _ rfl (W1.heap.size) 3 i0 _ 1 8 Try.underlying24 hi0 iz0 iz1 iz2 rfl (by omega) _ _ _ rfl ((HO2.out).alloc _) ⟨wr.heap.size, 0, none⟩ 1 1 [.int .i64 (-1)] rfl rfl (World.news_of_block (heap_alloc_new wr _)) (by simp [Value.oneCell']) (by have h1 := husl; unfold maxLen; omega) (by have h1 := husl; omega) (by have h1 := HB2.out.size; simp; omega) ?_); intro v1 w3 hown1 hg1 _ hat1; obtain ⟨A8, q8, e8⟩ := owns_formT hown1; subst e8; have HO3 := hide hown1; have HB3 := hide (Below.grown (Below.allocT HB2.out (Nat.le_refl _) _) hg1 (by have := HB2.out.size; simp; omega) (fun j hj => (HO2.out.lt j hj).1)); clear hown1 hg1 hat1)
          go_roundw
          case rel =>
            refine ⟨k + 1, us ++ [-1], A8, q8, by go_num, by simp, by omega, by show _ = _; simp; exact HUL.out, fun j hj => ?_, ?_, HB3⟩
            · rcases Nat.lt_or_ge j k with h1 | h1
              · rw [getD_pushT (by rw [HUL.out]; exact h1)]
                exact HUS.out j h1
              · obtain rfl : j = k := by omega
                rw [getD_lastT HUL.out.symm]
                exact HAGE.out.symm
            · show World.ownsRow _ _ _ _ _ _ _
              simpa using HO3.out
          case measure => simp [intOf]; omega
        · have dr : decide (r < 0) = false := by simpa using hrn
          obtain ⟨rn, rfl⟩ := Int.eq_ofNat_of_zero_le (show 0 ≤ r by omega)
          have hrl := HRI0.out (by omega)
          have h0l : 0 < ss.length := by omega
          obtain ⟨b5, o5, A5, q5, r5, HR5, hA5, hb5, hq5, HI5, e5⟩ := (HA.out.up (Below.to HB1.out HB2.out (Nat.le_refl _))).at (k := 0) (by rw [HLA.out]; exact h0l)
          subst hA5
          have i5 : (ss.length : Int) ≤ (qa : Int) := by rw [HLA.out] at hq5; omega
          have i50 : (0 : Int) < (ss.length : Int) := by omega
          have e5' : wr.cell? ⟨b5, o5, none⟩ = some (.slice A5 r5.length q5) := by simpa using e5
          clear e5
          have hrl2 : rn < (b.getD 0 []).length := by
            have h2 : (rn : Int) < rwN b 0 := hrl
            unfold rwN at h2
            omega
          have hl5 : rn < r5.length := by
            have := (OK.out.row 0 h0l).1
            rw [HR5.out] at this
            omega
          obtain ⟨b7, o7, t, HXT, hA7, hb7, hq7, g7⟩ := ints_atT HI5.out hl5
          subst hA7
          have il5 : (rn : Int) < (r5.length : Int) := by omega
          have irn0 : (0 : Int) ≤ (rn : Int) := by omega
          have i7 : (r5.length : Int) ≤ (q5 : Int) := by omega
          have hrun := OK.out.run 0 rn h0l hrl2
          rw [HR5.out, HXT.out] at hrun
          have hen := HK.out.ok 0 h0l
          have hke : (0 : Int) ≤ rn * (ss.getD 0 Stp.o).e := Int.mul_nonneg (by omega) (by have := hen.e0; omega)
          have hke2 : (rn : Int) * (ss.getD 0 Stp.o).e ≤ 500 * 100000 := Int.mul_le_mul (by omega) hen.e1 (by have := hen.e0; omega) (by omega)
          have ht0 : 0 ≤ t := by omega
          have ht1 : t ≤ 100000000 := by have := hen.r1; omega
          have wx : IntKind.i64.wrap (xe - t) = xe - t := IntWalk.i64_in _ (by omega)
          have hage : ageN (rwF a) (rwF b) (rwN b) n k = xe - t := by
            unfold ageN
            rw [HT.out, hTr.out, if_neg (by omega), Int.toNat_natCast]
            unfold rwF
            rw [HR2.out, HXE.out, HR5.out, HXT.out]
          have HAGE := hide hage
          clear hage hrun hen hke hke2 hrl hrl2 hq5 hq7
          go_wp2_with (at_builtin; go_must (refine wpList_append_own_at _ rfl (.tmp 80) (.tmp 89) _ rfl (W1.heap.size) 3 i0 _ 1 8 Try.underlying24 hi0 iz0 iz1 iz2 rfl (by omega) _ _ _ rfl ((HO2.out).alloc _) ⟨wr.heap.size, 0, none⟩ 1 1 [.int .i64 (xe - t)] rfl rfl (World.news_of_block (heap_alloc_new wr _)) (by simp [Value.oneCell']) (by have h1 := husl; unfold maxLen; omega) (by have h1 := husl; omega) (by have h1 := HB2.out.size; simp; omega) ?_); intro v1 w3 hown1 hg1 _ hat1; obtain ⟨A8, q8, e8⟩ := owns_formT hown1; subst e8; have HO3 := hide hown1; have HB3 := hide (Below.grown (Below.allocT HB2.out (Nat.le_refl _) _) hg1 (by have := HB2.out.size; simp; omega) (fun j hj => (HO2.out.lt j hj).1)); clear hown1 hg1 hat1)
          go_roundw
          case rel =>
            refine ⟨k + 1, us ++ [xe - t], A8, q8, by go_num, by simp, by omega, by show _ = _; simp; exact HUL.out, fun j hj => ?_, ?_, HB3⟩
            · rcases Nat.lt_or_ge j k with h1 | h1
              · rw [getD_pushT (by rw [HUL.out]; exact h1)]
                exact HUS.out j h1
              · obtain rfl : j = k := by omega
                rw [getD_lastT HUL.out.symm]
                exact HAGE.out.symm
            · show World.ownsRow _ _ _ _ _ _ _
              simpa using HO3.out
          case measure => simp [intOf]; omega
      case pos =>
      have di1 : decide ((0 : Int) < (i : Int)) = true := by simp; omega
      have di2 : decide (0 < i) = true := by simp; omega
      by_cases hrn : r < 0
      · have dr : decide (r < 0) = true := by simpa using hrn
        have dr2 : decide (0 ≤ r) = false := by simp; omega
        have hTr : Hid (T = r) := by
          show T = r
          rw [← HRT.out]
          exact runN_neg _ _ _ _ hrn
        have hage : ageN (rwF a) (rwF b) (rwN b) n k = -1 := by unfold ageN; rw [HT.out, hTr.out, if_pos hrn]
        have HAGE := hide hage
        clear hage
        go_wp2_with (at_builtin; go_must (refine wpList_append_own_at _ rfl (.tmp 77) (.tmp 78) _ rfl (W1.heap.size) 3 i0 _ 1 8 Try.underlying24 hi0 iz0 iz1 iz2 rfl (by omega) _ _ _ rfl ((HO2.out).alloc _) ⟨wr.heap.size, 0, none⟩ 1 1 [.int .i64 (-1)] rfl rfl (World.news_of_block (heap_alloc_new wr _)) (by simp [Value.oneCell']) (by have h1 := husl; unfold maxLen; omega) (by have h1 := husl; omega) (by have h1 := HB2.out.size; simp; omega) ?_); intro v1 w3 hown1 hg1 _ hat1; obtain ⟨A8, q8, e8⟩ := owns_formT hown1; subst e8; have HO3 := hide hown1; have HB3 := hide (Below.grown (Below.allocT HB2.out (Nat.le_refl _) _) hg1 (by have := HB2.out.size; simp; omega) (fun j hj => (HO2.out.lt j hj).1)); clear hown1 hg1 hat1)
        go_roundw
        case rel =>
          refine ⟨k + 1, us ++ [-1], A8, q8, by go_num, by simp, by omega, by show _ = _; simp; exact HUL.out, fun j hj => ?_, ?_, HB3⟩
          · rcases Nat.lt_or_ge j k with h1 | h1
            · rw [getD_pushT (by rw [HUL.out]; exact h1)]
              exact HUS.out j h1
            · obtain rfl : j = k := by omega
              rw [getD_lastT HUL.out.symm]
              exact HAGE.out.symm
          · show World.ownsRow _ _ _ _ _ _ _
            simpa using HO3.out
        case measure => simp [intOf]; omega
      · have dr2 : decide (0 ≤ r) = true := by simp; omega
        obtain ⟨rn, rfl⟩ := Int.eq_ofNat_of_zero_le (show 0 ≤ r by omega)
        obtain ⟨p, hp⟩ : ∃ p, i = p + 1 := ⟨i - 1, by omega⟩
        have hrl := HRI.out (by omega)
        have hpn : p < ss.length := by omega
        have hil : i < ss.length := by omega
        have wi1 : IntKind.i64.wrap ((i : Int) - 1) = (p : Int) := by
          rw [IntWalk.i64_in _ (by omega)]
          omega
        have wi2 : IntKind.i64.wrap (p : Int) = (p : Int) := IntWalk.i64_in _ (by omega)
        have ip0 : (0 : Int) ≤ (p : Int) := by omega
        have ip1 : (p : Int) < (ss.length : Int) := by omega
        have ii0 : (0 : Int) ≤ (i : Int) := by omega
        have ii1 : (i : Int) < (ss.length : Int) := by omega
        obtain ⟨b5, o5, A5, q5, r5, HR5, hA5, hb5, hq5, HI5, e5⟩ := (HA.out.up (Below.to HB1.out HB2.out (Nat.le_refl _))).at (k := i) (by rw [HLA.out]; exact hil)
        obtain ⟨b6, o6, A6, q6, r6, HR6, hA6, hb6, hq6, HI6, e6⟩ := (HB0.out.up (Below.to HB1.out HB2.out (Nat.le_refl _))).at (k := p) (by rw [HLB.out]; exact hpn)
        subst hA5
        injection hA6 with hA6
        injection hA6 with hA61 hA62 _
        subst hA61 hA62
        have i5 : (ss.length : Int) ≤ (qa : Int) := by rw [HLA.out] at hq5; omega
        have hl5 : rn < r5.length := by
          have := (OK.out.row i hil).1
          rw [HR5.out] at this
          rw [this]
          have h2 : (rn : Int) < rwN b i := hrl
          unfold rwN at h2
          omega
        have hl6 : r6.length ≤ 500 := by have := (OK.out.row p hpn).2; rw [HR6.out] at this; exact this
        have HN6 : Hid (rwN b p = r6.length) := by show rwN b p = _; unfold rwN; rw [HR6.out]
        obtain ⟨b7, o7, t, HXT, hA7, hb7, hq7, g7⟩ := ints_atT HI5.out hl5
        subst hA7
        have il5 : (rn : Int) < (r5.length : Int) := by omega
        have irn0 : (0 : Int) ≤ (rn : Int) := by omega
        have i7 : (r5.length : Int) ≤ (q5 : Int) := by omega
        have HRD : Hid (runN (rwF a) (rwF b) (rwN b) p (lastR (rwF b p) t r6.length) = T) := by
          show _ = T
          rw [← HRT.out, hp, runN_down (by omega), Int.toNat_natCast, HN6.out]
          have : rwF a (p + 1) rn = t := by
            unfold rwF
            rw [← hp, HR5.out]
            exact HXT.out
          rw [this]
        have HP := hide hp
        have hpn2 : p ≤ n := by omega
        have wl1 : IntKind.i64.wrap ((r6.length : Int) - 1) = (r6.length : Int) - 1 := IntWalk.i64_in _ (by omega)
        obtain ⟨Wi, hWi⟩ : ∃ wo : World, wo = wr := ⟨_, rfl⟩
        subst hWi
        clear hrl hq5 hq6 hq7 hp hrn
        go_wp2_with fail
        go_loopw [12] (fun rv wr => ∃ m : Nat, rv = .int .i64 ((m : Int) - 1) ∧ m ≤ r6.length ∧ Hid (lastR (rwF b p) t r6.length = lastR (rwF b p) t m) ∧ Hid (wr = Wi)) (fun rv _ => (intOf rv + 1).toNat)
        case atStart => exact ⟨r6.length, rfl, Nat.le_refl _, rfl, rfl⟩
        case round =>
          obtain ⟨m, rfl, hm, HLR, HWE⟩ := hrel
          have hwe := HWE.out
          subst hwe
          by_cases hm0 : m = 0
          · subst hm0
            have HRE : Hid (lastR (rwF b p) t r6.length = -1) := HLR
            go_wp2_with fail
            go_roundw
            case rel => exact ⟨p, -1, rfl, by first | rfl | go_num, by omega, by omega, by omega, by rw [← HRE.out]; exact HRD, fun h => by omega, HBi⟩
            case measure => have := HP.out; simp [intOf]; omega
          · obtain ⟨s, hs⟩ : ∃ s, m = s + 1 := ⟨m - 1, by omega⟩
            have hsl : s < r6.length := by omega
            obtain ⟨b8, o8, z, HXZ, hA8, hb8, hq8, g8⟩ := ints_atT HI6.out hsl
            subst hA8
            have es : (m : Int) - 1 = (s : Int) := by omega
            have is0 : (0 : Int) ≤ (s : Int) := by omega
            have is1 : (s : Int) < (r6.length : Int) := by omega
            have i8 : (r6.length : Int) ≤ (q6 : Int) := by omega
            have ws : IntKind.i64.wrap ((s : Int) - 1) = (s : Int) - 1 := IntWalk.i64_in _ (by omega)
            have hz : rwF b p s = z := by unfold rwF; rw [HR6.out]; exact HXZ.out
            rw [es]
            by_cases hzt : t < z
            · have dz : decide (t < z) = true := by simpa using hzt
              have HLD : Hid (lastR (rwF b p) t r6.length = lastR (rwF b p) t s) := by
                show _ = _
                rw [HLR.out, hs, lastR_down (by rw [hz]; omega)]
              clear hz hs es hq8
              go_wp2_with fail
              go_roundw
              case rel => exact ⟨s, by first | rfl | go_num, by omega, HLD, by first | exact trivial | rfl⟩
              case measure => simp [intOf] <;> omega
            · have dz : decide (t < z) = false := by simpa using hzt
              have HRE : Hid (lastR (rwF b p) t r6.length = (s : Int)) := by
                show _ = _
                rw [HLR.out, hs, lastR_here (by rw [hz]; omega)]
              clear hz hs es hq8
              go_wp2_with fail
              go_roundw
              case rel => exact ⟨p, s, rfl, by first | rfl | go_num, by omega, by omega, by omega, by rw [← HRE.out]; exact HRD, fun _ => by rw [HN6.out]; omega, HBi⟩
              case measure => have := HP.out; simp [intOf]; omega
end Go.Proofs.Ytmgfijadjclmpaa
/- Releases of frames as a system; what Play chooses: plain laws, and Repeat. -/
namespace Go.Proofs.Ytmgfijadjclmpaa
open Go.RowKit
set_option linter.unusedVariables false
set_option linter.unusedSimpArgs false
/-- Frames and releases as a system. -/
def sysOf (l : List Fr) (rs : List Rl) : Sys where
  m := l.length
  S := fun g => (l.getD g Fr.o).s
  E := fun g => (l.getD g Fr.o).e
  J := fun g => (l.getD g Fr.o).j
  R := fun g => (l.getD g Fr.o).r
  n := rs.length
  fr := fun i => (rs.getD i Rl.o).f.toNat
  tm := fun i => (rs.getD i Rl.o).t
theorem sys_ok {l : List Fr} {rs : List Rl} (h : chkR l rs = 0) : (sysOf l rs).Ok := by
  obtain ⟨ok, hn, hr⟩ := chkR_ok h
  exact ⟨fun g hg => (ok.s g hg).1, fun g hg => (ok.e g hg).1, fun g hg => (ok.j g hg).1, fun g k hg hk e => ok.apart g k hg hk e, fun i hi => by
    have h1 := (hr i hi).1
    show (rs.getD i Rl.o).f.toNat < l.length
    omega, fun i hi => (hr i hi).2.1⟩
/-- A release in memory. -/
theorem rl_at {w : World} {B n q : Nat} {A : Option Addr} {l : List Fr} {rs : List Rl} (hc : chkR l rs = 0) (h : Rls w B (.slice A n q) rs) {k : Nat} (hk : k < rs.length) : ∃ b off fi t, A = some ⟨b, off, none⟩ ∧ b < B ∧ rs.length ≤ q ∧ Hid ((sysOf l rs).fr k = fi) ∧ Hid ((sysOf l rs).tm k = t) ∧ fi < l.length ∧ 0 ≤ t ∧ t ≤ 1000000 ∧
    w.cell? ⟨b, off + k * 2, none⟩ = some (.int .i64 (fi : Nat)) ∧ w.cell? ⟨b, off + k * 2 + 1, none⟩ = some (.int .i64 t) := by
  obtain ⟨b, off, x, HX, hA, hb, hq, e0, e1⟩ := h.at hk
  have h1 := (chkR_ok hc).2.2 k hk
  rw [HX.out] at h1
  obtain ⟨fi, hfi⟩ := Int.eq_ofNat_of_zero_le h1.1.1
  rw [hfi] at e0
  refine ⟨b, off, fi, x.t, hA, hb, hq, ?_, ?_, by have := h1.1.2; omega, h1.2.1, h1.2.2, e0, e1⟩
  · show (rs.getD k Rl.o).f.toNat = fi
    rw [HX.out, hfi]
    rfl
  · show (rs.getD k Rl.o).t = x.t
    rw [HX.out]
theorem bef_befB {l : List Fr} {rs : List Rl} {k x : Nat} (hx : x < k) (h : (sysOf l rs).Ok) (hk : k < rs.length) : befB l ((sysOf l rs).fr k) ((sysOf l rs).fr x) ((sysOf l rs).tm k) ((sysOf l rs).tm x) = true ↔ (sysOf l rs).bef k x := by
  unfold befB Sys.bef
  by_cases e : (sysOf l rs).fr k = (sysOf l rs).fr x
  · rw [if_pos e, e]
    simp only [decide_eq_true_eq]
    constructor
    · intro h1
      exact .inr ⟨by trivial, .inl h1⟩
    · rintro (h1 | ⟨_, h1 | h1⟩)
      · omega
      · exact h1
      · omega
  · rw [if_neg e]
    simp only [decide_eq_true_eq]
    constructor
    · intro h1
      exact .inl h1
    · rintro (h1 | ⟨h1, _⟩)
      · exact h1
      · exact absurd h1 e
theorem bef_total {y : Sys} (ok : y.Ok) {i j : Nat} (hi : i < y.n) (hj : j < y.n) (hne : i ≠ j) (h : ¬ y.bef i j) : y.bef j i := by
  unfold Sys.bef at h ⊢
  rcases Int.lt_trichotomy (y.R (y.fr i)) (y.R (y.fr j)) with h1 | h1 | h1
  · exact absurd (.inl h1) h
  · have e := ok.R _ _ (ok.fr i hi) (ok.fr j hj) h1
    rcases Int.lt_trichotomy (y.tm i) (y.tm j) with h2 | h2 | h2
    · exact absurd (.inr ⟨e, .inl h2⟩) h
    · rcases Nat.lt_trichotomy i j with h3 | h3 | h3
      · exact absurd (.inr ⟨e, .inr ⟨h2, h3⟩⟩) h
      · exact absurd h3 hne
      · exact .inr ⟨e.symm, .inr ⟨h2.symm, h3⟩⟩
    · exact .inr ⟨e.symm, .inl h2⟩
  · exact .inl h1
theorem bef_trans {y : Sys} {i j k : Nat} (h1 : y.bef i j) (h2 : y.bef j k) : y.bef i k := by
  unfold Sys.bef at h1 h2 ⊢
  rcases h1 with h1 | ⟨h1, h3⟩
  · rcases h2 with h2 | ⟨h2, _⟩
    · exact .inl (by omega)
    · exact .inl (by rw [← h2]; exact h1)
  · rcases h2 with h2 | ⟨h2, h4⟩
    · exact .inl (by rw [h1]; exact h2)
    · refine .inr ⟨h1.trans h2, ?_⟩
      omega
/-- What the first k releases say: which is sent next, when one comes soon. -/
structure InnP (y : Sys) (en : Nat → Int) (now : Int) (k : Nat) (nx so : Int) : Prop where
  nx : (nx = -1 ∧ ∀ j, j < k → en j < 0 → now < y.tm j) ∨ ∃ x : Nat, nx = x ∧ x < k ∧ en x < 0 ∧ y.tm x ≤ now ∧ ∀ j, j < k → j ≠ x → en j < 0 → y.tm j ≤ now → y.bef x j
  so : (so = -1 ∧ ∀ j, j < k → en j < 0 → y.tm j ≤ now) ∨ (now < so ∧ ∃ i, i < k ∧ en i < 0 ∧ y.tm i = so) ∧ ∀ j, j < k → en j < 0 → now < y.tm j → so ≤ y.tm j
theorem InnP.start {y : Sys} {en : Nat → Int} {now : Int} : InnP y en now 0 (-1) (-1) := ⟨.inl ⟨rfl, fun j hj => by omega⟩, .inl ⟨rfl, fun j hj => by omega⟩⟩
theorem InnP.sent {y : Sys} {en : Nat → Int} {now nx so : Int} {k : Nat} (h : InnP y en now k nx so) (he : 0 ≤ en k) : InnP y en now (k + 1) nx so := by
  have hj : ∀ j, j < k + 1 → en j < 0 → j < k := fun j h1 h2 => by
    rcases Nat.lt_or_ge j k with h3 | h3
    · exact h3
    · have : j = k := by omega
      subst this
      omega
  constructor
  · rcases h.nx with ⟨h1, h2⟩ | ⟨x, h1, h2, h3, h4, h5⟩
    · exact .inl ⟨h1, fun j a b => h2 j (hj j a b) b⟩
    · exact .inr ⟨x, h1, by omega, h3, h4, fun j a b c => h5 j (hj j a c) b c⟩
  · rcases h.so with ⟨h1, h2⟩ | ⟨⟨h0, i, h1, h2⟩, h3⟩
    · exact .inl ⟨h1, fun j a b => h2 j (hj j a b) b⟩
    · exact .inr ⟨⟨h0, i, by omega, h2⟩, fun j a b => h3 j (hj j a b) b⟩
theorem InnP.later {y : Sys} {en : Nat → Int} {now nx so so' : Int} {k : Nat} (h : InnP y en now k nx so) (he : en k < 0) (ht : now < y.tm k) (hs : so' = if so < 0 ∨ y.tm k < so then y.tm k else so) (h0 : 0 ≤ now) : InnP y en now (k + 1) nx so' := by
  constructor
  · rcases h.nx with ⟨h1, h2⟩ | ⟨x, h1, h2, h3, h4, h5⟩
    · refine .inl ⟨h1, fun j a b => ?_⟩
      rcases Nat.lt_or_ge j k with h3 | h3
      · exact h2 j h3 b
      · have : j = k := by omega
        subst this
        exact ht
    · refine .inr ⟨x, h1, by omega, h3, h4, fun j a b c d => ?_⟩
      rcases Nat.lt_or_ge j k with h6 | h6
      · exact h5 j h6 b c d
      · have : j = k := by omega
        subst this
        omega
  · refine .inr ?_
    rcases h.so with ⟨h1, h2⟩ | ⟨⟨h4, i, h1, h2⟩, h3⟩
    · rw [if_pos (.inl (by omega))] at hs
      subst hs
      refine ⟨⟨ht, k, by omega, he, rfl⟩, fun j a b c => ?_⟩
      rcases Nat.lt_or_ge j k with h3 | h3
      · have := h2 j h3 b
        omega
      · have : j = k := by omega
        subst this
        exact Int.le_refl _
    · by_cases h5 : y.tm k < so
      · rw [if_pos (.inr h5)] at hs
        subst hs
        refine ⟨⟨ht, k, by omega, he, rfl⟩, fun j a b c => ?_⟩
        rcases Nat.lt_or_ge j k with h6 | h6
        · have := h3 j h6 b c
          omega
        · have : j = k := by omega
          subst this
          exact Int.le_refl _
      · rw [if_neg (by omega)] at hs
        subst hs
        refine ⟨⟨h4, i, by omega, h2⟩, fun j a b c => ?_⟩
        rcases Nat.lt_or_ge j k with h6 | h6
        · exact h3 j h6 b c
        · have : j = k := by omega
          subst this
          omega
theorem InnP.so_up {y : Sys} {en : Nat → Int} {now nx so : Int} {k : Nat} (h : InnP y en now k nx so) (ht : y.tm k ≤ now) : (so = -1 ∧ ∀ j, j < k + 1 → en j < 0 → y.tm j ≤ now) ∨ (now < so ∧ ∃ i, i < k + 1 ∧ en i < 0 ∧ y.tm i = so) ∧ ∀ j, j < k + 1 → en j < 0 → now < y.tm j → so ≤ y.tm j := by
  rcases h.so with ⟨h1, h2⟩ | ⟨⟨h4, i, h1, h2⟩, h3⟩
  · refine .inl ⟨h1, fun j a b => ?_⟩
    rcases Nat.lt_or_ge j k with h6 | h6
    · exact h2 j h6 b
    · have : j = k := by omega
      subst this
      exact ht
  · refine .inr ⟨⟨h4, i, by omega, h2⟩, fun j a b c => ?_⟩
    rcases Nat.lt_or_ge j k with h6 | h6
    · exact h3 j h6 b c
    · have : j = k := by omega
      subst this
      omega
theorem InnP.first {y : Sys} {en : Nat → Int} {now so : Int} {k : Nat} (h : InnP y en now k (-1) so) (he : en k < 0) (ht : y.tm k ≤ now) : InnP y en now (k + 1) k so := by
  refine ⟨.inr ⟨k, rfl, by omega, he, ht, fun j a b c d => ?_⟩, h.so_up ht⟩
  rcases h.nx with ⟨_, h2⟩ | ⟨x, h1, _⟩
  · have := h2 j (by omega) c
    omega
  · omega
theorem InnP.take {y : Sys} (ok : y.Ok) {en : Nat → Int} {now so : Int} {k x : Nat} (h : InnP y en now k x so) (he : en k < 0) (ht : y.tm k ≤ now) (hb : y.bef k x) : InnP y en now (k + 1) k so := by
  refine ⟨.inr ⟨k, rfl, by omega, he, ht, fun j a b c d => ?_⟩, h.so_up ht⟩
  rcases h.nx with ⟨h1, _⟩ | ⟨x', h1, _, _, _, h5⟩
  · omega
  · have e : x' = x := by omega
    subst e
    by_cases ej : j = x'
    · subst ej; exact hb
    · exact bef_trans hb (h5 j (by omega) ej c d)
theorem InnP.keep {y : Sys} (ok : y.Ok) {en : Nat → Int} {now so : Int} {k x : Nat} (hk : k < y.n) (h : InnP y en now k x so) (he : en k < 0) (ht : y.tm k ≤ now) (hb : ¬ y.bef k x) : InnP y en now (k + 1) x so := by
  refine ⟨?_, h.so_up ht⟩
  rcases h.nx with ⟨h1, _⟩ | ⟨x', h1, h2, h3, h4, h5⟩
  · omega
  · have e : x' = x := by omega
    subst e
    refine .inr ⟨x', rfl, by omega, h3, h4, fun j a b c d => ?_⟩
    rcases Nat.lt_or_ge j k with h6 | h6
    · exact h5 j h6 b c d
    · have : j = k := by omega
      subst this
      exact bef_total ok hk (by omega) (fun e => b e) hb
/-- How many have no end yet. -/
def unK (en : Nat → Int) : Nat → Nat
  | 0 => 0
  | k + 1 => unK en k + if en k < 0 then 1 else 0
theorem unK_le (en : Nat → Int) : ∀ n, unK en n ≤ n
  | 0 => Nat.le_refl _
  | n + 1 => by
    have := unK_le en n
    show unK en n + (if en n < 0 then 1 else 0) ≤ n + 1
    split <;> omega
theorem unK_congr {en en' : Nat → Int} : ∀ {n : Nat}, (∀ j, j < n → en' j = en j) → unK en' n = unK en n
  | 0, _ => rfl
  | n + 1, h => by
    show unK en' n + (if en' n < 0 then 1 else 0) = unK en n + (if en n < 0 then 1 else 0)
    rw [unK_congr fun j hj => h j (by omega), h n (by omega)]
theorem unK_send {en en' : Nat → Int} {x : Nat} (hx : en x < 0) (hx' : 0 ≤ en' x) (h : ∀ j, j ≠ x → en' j = en j) : ∀ {n : Nat}, x < n → unK en' n + 1 = unK en n
  | 0, hn => absurd hn (by omega)
  | n + 1, hn => by
    show unK en' n + (if en' n < 0 then 1 else 0) + 1 = unK en n + (if en n < 0 then 1 else 0)
    by_cases e : n = x
    · subst e
      rw [if_neg (by omega), if_pos hx, unK_congr fun j hj => h j (by omega)]
    · have := unK_send hx hx' h (n := n) (by omega)
      rw [h n e]
      omega
/-- Whether one can be sent now. -/
def rdB (y : Sys) (en : Nat → Int) (now : Int) : Bool := (List.range y.n).any fun i => decide (en i < 0) && decide (y.tm i ≤ now)
theorem rdB_yes {y : Sys} {en : Nat → Int} {now : Int} {i : Nat} (hi : i < y.n) (h1 : en i < 0) (h2 : y.tm i ≤ now) : rdB y en now = true :=
  List.any_eq_true.2 ⟨i, List.mem_range.2 hi, by simp [h1, h2]⟩
theorem rdB_no {y : Sys} {en : Nat → Int} {now : Int} (h : ∀ i, i < y.n → en i < 0 → now < y.tm i) : rdB y en now = false := by
  unfold rdB
  rw [List.any_eq_false]
  intro i hi
  have hi := List.mem_range.1 hi
  by_cases h1 : en i < 0
  · have := h i hi h1
    simp [h1]
    omega
  · simp [h1]
def muN (y : Sys) (en : Nat → Int) (now : Int) : Nat := 2 * unK en y.n + if rdB y en now = true then 0 else 1
theorem set_getD {es : List Int} {x : Nat} {v : Int} (hx : x < es.length) : (es.set x v).getD x 0 = v := by simp [hx]
theorem set_getD_ne {es : List Int} {x j : Nat} {v : Int} (h : j ≠ x) : (es.set x v).getD j 0 = es.getD j 0 := by
  rw [List.getD_eq_getElem?_getD, List.getElem?_set, if_neg (fun e => h e.symm), ← List.getD_eq_getElem?_getD]
end Go.Proofs.Ytmgfijadjclmpaa

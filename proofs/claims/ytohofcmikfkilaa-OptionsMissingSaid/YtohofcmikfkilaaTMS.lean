/- Group S of this claim's texts: walks and plain laws. -/
import Derived.Test.YtohofcmikfkilaaRows
import Derived.Test.YtohofcmikfkilaaTMH
import Derived.Test.YtohofcmikfkilaaTMQ
import Derived.Deep.RegionHeld3
import Derived.Deep.DrawnRows
import Derived.Deep.DeepMust
/- Options that all variants have, or none, as the elder program has it: walk. -/
namespace Go.Proofs.Ytohofcmikfkilaa
open Go.RowKit
set_option linter.unusedVariables false
set_option linter.unusedSimpArgs false
/-- Numbers being made: the first ones, and then 0. -/
def IntAt (w : World) (b N : Nat) (l : List Int) : Prop := w.heap[b]? = some (.cells ((l ++ List.replicate (N - l.length) 0).map (Value.int .i64)).toArray 3 (0, 0))
theorem IntAt.cell {w : World} {b N : Nat} {l : List Int} (h : IntAt w b N l) (hl : l.length < N) : w.cell? ⟨b, l.length, none⟩ = some (.int .i64 0) := by
  rw [cellOf h]
  simp only [List.getElem?_toArray, List.getElem?_map]
  rw [List.getElem?_append_right (Nat.le_refl _), Nat.sub_self, List.getElem?_replicate, if_pos (by omega)]
  rfl
theorem IntAt.set {w : World} {b N : Nat} {l : List Int} (h : IntAt w b N l) (hl : l.length < N) (x : Int) : IntAt (w.setCell ⟨b, l.length, none⟩ (.int .i64 x)) b N (l ++ [x]) := by
  unfold IntAt
  rw [setCellOf h]
  congr 2
  rw [List.setIfInBounds_toArray]
  congr 1
  have e : N - l.length = (N - (l ++ [x]).length) + 1 := by simp; omega
  rw [e, List.replicate_succ]
  simp
theorem IntAt.ints {w : World} {b : Nat} {l : List Int} (h : IntAt w b l.length l) : Ints w w.heap.size (.slice (some ⟨b, 0, none⟩) l.length l.length) l :=
  ⟨_, b, 0, _, rfl, Nat.le_refl _, .inl ⟨rfl, box_lt h⟩, fun i j hi hj => by
    obtain rfl : j = 0 := by omega
    rw [Nat.mul_one, Nat.add_zero, Nat.zero_add, cellOf h]
    simp [hi]⟩
theorem made_ints (N : Nat) : madeCells #[.int .i64 0] N = (((List.replicate N (0 : Int)).map (Value.int .i64)).toArray) := by
  apply Array.ext
  · simp [madeCells]
  · intro i h1 h2
    simp [madeCells, Nat.mod_one]
/-- One option as a formula. -/
theorem whereF_one (L : List (List Bool)) (o : Nat) : whereF L [(o : Int)] = L.filter fun x => vf x o == true := by
  unfold whereF
  refine List.filter_congr fun x _ => ?_
  show (stp (vf x) (o : Int) []).headD false = _
  unfold stp
  rw [if_neg (by omega), if_neg (by omega), if_neg (by omega), if_neg (by omega), if_neg (by omega), if_neg (by omega), Int.toNat_natCast]
  simp
theorem valid_one {N o : Nat} (h : o < N) : validF N [(o : Int)] = true := by
  have h1 : vld N 1 [(o : Int)] = (decide ((-6 : Int) ≤ o) && decide ((o : Int) < N) && vld N (0 + arO o) []) := rfl
  have h2 : arO (o : Int) = 0 := by unfold arO; rw [if_neg (by omega), if_neg (by omega)]
  simp only [validF, Bool.and_eq_true, decide_eq_true_eq]
  refine ⟨?_, by simp⟩
  rw [h1, h2]
  simp only [Bool.and_eq_true, decide_eq_true_eq]
  exact ⟨⟨by omega, by omega⟩, rfl⟩
theorem fixAt_where (m : Mo) (o : Nat) (hne : allM m ≠ []) : fixAt m o = if (whereF (allM m) [(o : Int)]).length = 0 then 0 else if (whereF (allM m) [(o : Int)]).length = (allM m).length then 1 else -1 := by
  rw [whereF_one]
  unfold fixAt noneB
  have h1 : ((allM m).filter (fun x => vf x o == true)).isEmpty = true ↔ ((allM m).filter fun x => vf x o == true).length = 0 := by
    rw [List.isEmpty_iff, List.length_eq_zero_iff]
  have h2 : ((allM m).filter (fun x => vf x o == false)).isEmpty = true ↔ ((allM m).filter fun x => vf x o == true).length = (allM m).length := by
    rw [List.isEmpty_iff, List.filter_eq_nil_iff, List.length_filter_eq_length_iff]
    constructor
    · intro h a ha
      have := h a ha
      cases hv : vf a o <;> simp [hv] at this ⊢
    · intro h a ha
      have := h a ha
      cases hv : vf a o <;> simp [hv] at this ⊢
  by_cases q1 : ((allM m).filter fun x => vf x o == true).length = 0
  · rw [if_pos (h1.2 q1), if_pos q1]
  · rw [if_neg (fun h => q1 (h1.1 h)), if_neg q1]
    by_cases q2 : ((allM m).filter fun x => vf x o == true).length = (allM m).length
    · rw [if_pos (h2.2 q2), if_pos q2]
    · rw [if_neg (fun h => q2 (h2.1 h)), if_neg q2]
set_option maxRecDepth 100000 in
set_option maxHeartbeats 8000000 in
theorem rFixed_any (m : Mo) (ov rv : Value) (w : World) (hs : SizedM m) (h : MoAt w w.heap.size ov rv m) (hN : m.err = 0 → m.opts.length ≤ 12) :
    Calls Try.prog 53 #[.agg #[ov, rv]] w (FixP (fixL m) (fixE m) w) := by
  obtain ⟨i0, hi0, iz0, iz1, iz2⟩ := info_parts infoInt
  obtain ⟨A, cap, hov⟩ := Sl.form h.o
  obtain ⟨Ar, capr, hrv⟩ := h.r.form
  have H := hide h
  have HS := hide hs
  subst hov hrv
  clear h hs
  go_enter Try.func53, Try.ntmps53
  go_upto_region 1 with (fail)
  generalize hw0 : World.alloc _ _ = w0
  obtain ⟨hb0, hB0, hs0⟩ := alloc1 hw0
  clear hw0
  have HX0 : Hid (MoBox w0 w.heap.size (.slice A m.opts.length cap) (.slice Ar m.rules.length capr)) := hb0
  have HB0 := hide hB0
  have c0 := cellOf hb0 0
  have c1 := cellOf hb0 1
  have hck := rCheckModel_any m (.slice A m.opts.length cap) (.slice Ar m.rules.length capr) w0 HS.out (H.out.up hB0)
  have HCK := hide hck
  clear hb0 hB0 hs0 hck
  by_cases he : m.err = 0
  · have HE := hide he
    have hN2 := hN he
    obtain ⟨z, hz⟩ : ∃ z, (allM m).length = z := ⟨_, rfl⟩
    have HZ := hide hz
    clear he hN hz
    go_upto_region 4 with (go_at_call 25; refine HCK.out.mono ?_; rw [HE.out]; rintro e w1 ⟨rfl, hB1⟩; have hbx := box_to HX0.out hB1; have HX1 := hide hbx; have d0 := cellOf hbx 0; have d1 := cellOf hbx 1; have HB1 : Hid (Below w.heap.size w w1) := Below.to HB0.out hB1 (Nat.le_refl _); clear hbx hB1 c0 c1)
    go_upto_region 5 with (go_at_call 65; refine (Variants_any m _ _ _ (H.out.up HB1.out) HE.out hN2).mono ?_; rintro e w2 ⟨v2, rfl, hv2, hB2⟩; obtain ⟨A2, cap2, hA2, _, _⟩ := hv2.form; rw [HZ.out] at hA2; subst hA2; have HV2 := hide hv2; have hbx := box_to HX1.out hB2; have HB2 : Hid (Below w.heap.size w w2) := Below.to HB1.out hB2 (Nat.le_refl _); clear hv2 hB2 d0 d1; have d0 := cellOf hbx 0; have l0 := box_lt hbx; clear hbx)
    by_cases hz0 : z = 0
    · have hem : allM m = [] := List.eq_nil_of_length_eq_zero (HZ.out.trans hz0)
      have hP := fix_none HE.out hem
      have HP := hide (And.intro hP (fix_bad hP (by omega)))
      have hz1 : ((z : Int) == 0) = true := by simp [hz0]
      clear hP hem hz0
      go_wp2_with fail
      go_ret2
      rw [HP.out.1, HP.out.2]
      exact FixP.none 12 HB2.out
    · have hne : allM m ≠ [] := fun e => hz0 (by rw [← HZ.out, e]; rfl)
      have HP := hide (fix_ok HE.out hne)
      have HNE := hide hne
      have hz1 : ((z : Int) == 0) = false := by simpa using hz0
      have hmk : ∀ W : World, (Instr.makeSlice 26 (.int .i64 m.opts.length) (.int .i64 m.opts.length)).run Try.prog W = .ok (.slice (some ⟨W.heap.size, 0, none⟩) m.opts.length m.opts.length) (W.alloc (.cells (madeCells #[.int .i64 0] (m.opts.length * 1)) 3)) := fun W => by
        have h1 := run_make (P := Try.prog) W 26 3 i0 (.int .i64 0) Try.underlying26 hi0 iz0 .i64 .i64 m.opts.length m.opts.length (by omega) (Int.le_refl _) (by rw [iz2]; omega) (by omega)
        rw [iz1] at h1
        simpa [Value.cells] using h1
      clear hne
      go_upto_region 8 with (fail)
      generalize hw0 : World.alloc _ _ = w3
      obtain ⟨hb0, hB0, hs0⟩ := alloc1 hw0
      clear hw0
      have hia : IntAt w3 w2.heap.size m.opts.length [] := by
        unfold IntAt
        rw [hb0, made_ints]
        rfl
      have HIA := hide hia
      have HB3 := hide hB0
      clear hb0 hB0 hs0 hia hmk d0 l0
      go_wp2_with fail
      go_loopw [7] (fun i wr => ∃ (k : Nat) (l : List Int), k ≤ m.opts.length ∧ i = .int .i64 k ∧ l.length = k ∧ Hid (l = (List.range k).map (fixAt m)) ∧ Hid (IntAt wr w2.heap.size m.opts.length l) ∧ Hid (Below w2.heap.size w2 wr)) (fun i _ => m.opts.length - (intOf i).toNat)
      case atStart => exact ⟨0, [], Nat.zero_le _, rfl, rfl, rfl, HIA.out, HB3.out⟩
      case round =>
        obtain ⟨k, l, hk, rfl, hll, hle, hI, hB⟩ := hrel
        have HLL := hide hll
        clear hll
        by_cases hlt : k < m.opts.length
        · have g0 : (k : Int) < (m.opts.length : Int) := by omega
          have g1 : (0 : Int) ≤ (k : Int) := by omega
          obtain ⟨y, hy⟩ : ∃ x, (whereF (allM m) [(k : Int)]).length = x := ⟨_, rfl⟩
          have hfx := fixAt_where m k HNE.out
          rw [hy, HZ.out] at hfx
          have HFX := hide hfx
          have HY := hide hy
          clear hfx hy
          go_upto_region 12 with (go_at_call 75; refine (Where_any m.opts.length (allM m) [(k : Int)] _ _ _ (HV2.out.rows.up (Below.allocT hB.out (Nat.le_refl _) _)) (ints_own2 (owns_built wr k) rfl rfl) (fun x hx => allM_len hx) (valid_one hlt) (by have := allM_le4 hN2; omega)).mono ?_; rintro e w4 ⟨v4, rfl, hv4, hB4⟩; obtain ⟨A4, cap4, hA4, _, _⟩ := hv4.form; rw [HY.out] at hA4; subst hA4; have hB5 := Below.to (Below.allocT (Below.refl wr.heap.size wr) (Nat.le_refl _) _) hB4 (Nat.le_refl _); have HIA4 : Hid (IntAt w4 w2.heap.size m.opts.length l) := box_to hI.out hB5; have HB4 : Hid (Below w2.heap.size w2 w4) := Below.to hB.out hB5 (Nat.le_refl _); clear hv4 hB4 hB5)
          have e1 := HIA4.out.cell (by have := HLL.out; omega)
          rw [HLL.out] at e1
          have f1 := unfrozenOf HIA4.out k
          have l1 := box_lt HIA4.out
          have hset := fun x => HIA4.out.set (by have := HLL.out; omega) x
          rw [HLL.out] at hset
          have HSET := hide hset
          clear hset
          by_cases hy0 : y = 0
          · have hv : fixAt m k = 0 := by rw [HFX.out, if_pos hy0]
            have HV := hide hv
            have hy1 : ((y : Int) == 0) = true := by simp [hy0]
            clear hv hy0
            go_wp2_with fail
            go_roundw
            case rel => exact ⟨k + 1, l ++ [0], by omega, by go_num, by (have := HLL.out; simp; omega), by (rw [range_snoc, ← hle.out, HV.out]; rfl), HSET.out 0, HB4.out.setCell (by simp) _⟩
            case measure => simp [intOf]; omega
          · have hy1 : ((y : Int) == 0) = false := by simpa using hy0
            by_cases hyz : y = z
            · have hv : fixAt m k = 1 := by rw [HFX.out, if_neg hy0, if_pos hyz]
              have HV := hide hv
              have hy2 : ((y : Int) == (z : Int)) = true := by simp [hyz]
              clear hv hy0 hyz
              go_wp2_with fail
              go_roundw
              case rel => exact ⟨k + 1, l ++ [1], by omega, by go_num, by (have := HLL.out; simp; omega), by (rw [range_snoc, ← hle.out, HV.out]; rfl), HSET.out 1, HB4.out.setCell (by simp) _⟩
              case measure => simp [intOf]; omega
            · have hv : fixAt m k = -1 := by rw [HFX.out, if_neg hy0, if_neg hyz]
              have HV := hide hv
              have hy2 : ((y : Int) == (z : Int)) = false := by simp; omega
              clear hv hy0 hyz
              go_wp2_with fail
              go_roundw
              case rel => exact ⟨k + 1, l ++ [-1], by omega, by go_num, by (have := HLL.out; simp; omega), by (rw [range_snoc, ← hle.out, HV.out]; rfl), HSET.out (-1), HB4.out.setCell (by simp) _⟩
              case measure => simp [intOf]; omega
        · obtain rfl : k = m.opts.length := by omega
          have g0 : ¬ (m.opts.length : Int) < (m.opts.length : Int) := by omega
          have hint : Ints wr wr.heap.size (.slice (some ⟨w2.heap.size, 0, none⟩) m.opts.length m.opts.length) l := by
            have h1 := hI.out
            rw [← HLL.out] at h1 ⊢
            exact h1.ints
          have HINT := hide hint
          clear hint
          go_wp2_with fail
          go_ret2
          rw [HP.out.1, HP.out.2, ← hle.out]
          exact ⟨_, rfl, HINT.out, Below.to HB2.out hB.out (Nat.le_refl _)⟩
  · obtain ⟨z, hz⟩ : ∃ z, m.err = z := ⟨_, rfl⟩
    have hP := fix_err he
    rw [hz] at he hP
    have HP := hide (And.intro hP (fix_bad hP he))
    have hz1 : (z != 0) = true := by simpa using he
    have HZ := hide hz
    clear he hz hN hP
    go_wp2_with (go_at_call 25; refine HCK.out.mono ?_; rw [HZ.out]; rintro e w1 ⟨rfl, hB1⟩)
    go_ret2
    rw [HP.out.1, HP.out.2]
    exact FixP.none z (Below.to HB0.out hB1 (Nat.le_refl _))
end Go.Proofs.Ytohofcmikfkilaa
/- All combinations in a list; the first variant that has one: walks of the elder program. -/
namespace Go.Proofs.Ytohofcmikfkilaa
open Go.RowKit
set_option linter.unusedVariables false
set_option linter.unusedSimpArgs false
set_option maxRecDepth 100000 in
set_option maxHeartbeats 8000000 in
theorem pairs_any (N : Nat) (hN : N ≤ 12) (w : World) :
    Calls Try.prog 90 #[.int .i64 N] w fun e w' => ∃ v, e = .returned v ∧ w'.ownsRow w.heap.size 77 4 v (pairsL N).length (lksL (pairsL N)) ∧ Below w.heap.size w w' := by
  obtain ⟨i0, hi0, iz0, iz1, iz2⟩ := info_parts infoLack
  go_enter Try.func90, Try.ntmps90
  go_wp2
  go_loopw [3, 4] (fun sv i wr => ∃ (a : Nat) (L : List Lk), a ≤ N ∧ i = .int .i64 a ∧ Hid (L = pairsN N a) ∧ Hid (wr.ownsRow w.heap.size 77 4 sv L.length (lksL L)) ∧ Hid (Below w.heap.size w wr)) (fun _ i _ => N - (intOf i).toNat)
  case atStart => exact ⟨0, [], Nat.zero_le _, rfl, rfl, World.ownsRow_nil _ _ _ _, Below.refl _ _⟩
  case round =>
    obtain ⟨a, L0, ha, rfl, hL0, hO0, hB0⟩ := hrel
    obtain ⟨A0, cap0, hA0⟩ := owns_form hO0.out
    subst hA0
    by_cases hlt : a < N
    · have g0 : (a : Int) < (N : Int) := by omega
      obtain ⟨wo, hwo⟩ : ∃ wo : World, wo = wr := ⟨_, rfl⟩
      subst hwo
      go_wp2_with fail
      go_loopw [3, 5] (fun sv i wr => ∃ (d b : Nat) (L : List Lk), d ≤ N - (a + 1) ∧ Hid (b = a + 1 + d) ∧ i = .int .i64 b ∧ Hid (L = pairsN N a ++ rowN a d) ∧ Hid (wr.ownsRow w.heap.size 77 4 sv L.length (lksL L)) ∧ Hid (Below w.heap.size w wr)) (fun _ i _ => N - (intOf i).toNat)
      case atStart => exact ⟨0, a + 1, L0, Nat.zero_le _, (rfl : a + 1 = a + 1 + 0), by go_num, (by rw [show rowN a 0 = [] from rfl, List.append_nil]; exact hL0.out), hO0.out, hB0.out⟩
      case round =>
        obtain ⟨d, b, L1, hd, hb, rfl, hL1, hO1, hB1⟩ := hrel
        obtain ⟨A1, cap1, hA1⟩ := owns_form hO1.out
        subst hA1
        by_cases hlt2 : b < N
        · have hd2 : d < N - (a + 1) := by have := hb.out; omega
          have g1 : (b : Int) < (N : Int) := by omega
          obtain ⟨wo1, hwo1⟩ : ∃ wo1 : World, wo1 = wr := ⟨_, rfl⟩
          subst hwo1
          go_wp2_with fail
          go_loopw [3, 6] (fun sv i wr => ∃ (k : Nat) (L : List Lk), k ≤ 4 ∧ i = .int .i64 k ∧ Hid (L = pairsN N a ++ rowN a d ++ quadN a b k) ∧ Hid (wr.ownsRow w.heap.size 77 4 sv L.length (lksL L)) ∧ Hid (Below w.heap.size w wr)) (fun _ i _ => 4 - (intOf i).toNat)
          case atStart => exact ⟨0, L1, Nat.zero_le _, rfl, (by rw [show quadN a b 0 = [] from rfl, List.append_nil]; exact hL1.out), hO1.out, hB1.out⟩
          case round =>
            obtain ⟨k, L, hk, rfl, HLE, HOW, HB⟩ := hrel
            obtain ⟨A2, cap2, hA2⟩ := owns_form HOW.out
            subst hA2
            by_cases hlt3 : k < 4
            · have HLL : Hid (L.length ≤ 576) := by
                have h1 := pairs_lt hlt hd2 hlt3
                have h2 := pairs_len hN
                rw [← hb.out, ← HLE.out] at h1
                show _ ≤ _
                omega
              have HSB : Hid (w.heap.size ≤ wr.heap.size) := HB.out.size
              match k, hlt3 with
              | 0, _ =>
                go_wp2_with (at_builtin; (refine wpList_append_own_at _ rfl (.tmp 23) (.tmp 32) _ rfl w.heap.size 77 i0 _ 4 24 Try.underlying73 hi0 iz0 iz1 iz2 rfl (by omega) _ _ _ rfl (HOW.out.alloc _) ⟨wr.heap.size, 0, none⟩ 1 1 [.int .i64 a, .int .i64 b, .bool false, .bool false] rfl rfl (World.news_of_block (heap_alloc_new wr _)) (by simp [Value.oneCell']) (by have h1 := HLL.out; unfold maxLen; omega) (by have h1 := HLL.out; omega) (by have h1 := HSB.out; simp; omega) ?_); intro v1 w3 hown1 hg1 _ hat1; obtain ⟨A3, cap3, hv3⟩ := owns_form hown1; subst hv3; have HOWN := hide hown1; have HG1 := hide hg1; clear hown1 hg1 hat1)
                go_roundw
                case rel =>
                  refine ⟨1, L ++ [lkAt a b 0], by omega, by go_num, (by show L ++ [lkAt a b 0] = pairsN N a ++ rowN a d ++ (quadN a b 0 ++ [lkAt a b 0]); rw [← List.append_assoc, ← HLE.out]), ?_, Below.grown (Below.allocT HB.out (Nat.le_refl _) _) HG1.out (by have h1 := HSB.out; simp; omega) (fun j hj => (HOW.out.lt j hj).1)⟩
                  rw [List.length_append, lksL_snoc]
                  exact HOWN.out
                case measure => simp [intOf]
              | 1, _ =>
                go_wp2_with (at_builtin; (refine wpList_append_own_at _ rfl (.tmp 23) (.tmp 32) _ rfl w.heap.size 77 i0 _ 4 24 Try.underlying73 hi0 iz0 iz1 iz2 rfl (by omega) _ _ _ rfl (HOW.out.alloc _) ⟨wr.heap.size, 0, none⟩ 1 1 [.int .i64 a, .int .i64 b, .bool false, .bool true] rfl rfl (World.news_of_block (heap_alloc_new wr _)) (by simp [Value.oneCell']) (by have h1 := HLL.out; unfold maxLen; omega) (by have h1 := HLL.out; omega) (by have h1 := HSB.out; simp; omega) ?_); intro v1 w3 hown1 hg1 _ hat1; obtain ⟨A3, cap3, hv3⟩ := owns_form hown1; subst hv3; have HOWN := hide hown1; have HG1 := hide hg1; clear hown1 hg1 hat1)
                go_roundw
                case rel =>
                  refine ⟨2, L ++ [lkAt a b 1], by omega, by go_num, (by show L ++ [lkAt a b 1] = pairsN N a ++ rowN a d ++ (quadN a b 1 ++ [lkAt a b 1]); rw [← List.append_assoc, ← HLE.out]), ?_, Below.grown (Below.allocT HB.out (Nat.le_refl _) _) HG1.out (by have h1 := HSB.out; simp; omega) (fun j hj => (HOW.out.lt j hj).1)⟩
                  rw [List.length_append, lksL_snoc]
                  exact HOWN.out
                case measure => simp [intOf]
              | 2, _ =>
                go_wp2_with (at_builtin; (refine wpList_append_own_at _ rfl (.tmp 23) (.tmp 32) _ rfl w.heap.size 77 i0 _ 4 24 Try.underlying73 hi0 iz0 iz1 iz2 rfl (by omega) _ _ _ rfl (HOW.out.alloc _) ⟨wr.heap.size, 0, none⟩ 1 1 [.int .i64 a, .int .i64 b, .bool true, .bool false] rfl rfl (World.news_of_block (heap_alloc_new wr _)) (by simp [Value.oneCell']) (by have h1 := HLL.out; unfold maxLen; omega) (by have h1 := HLL.out; omega) (by have h1 := HSB.out; simp; omega) ?_); intro v1 w3 hown1 hg1 _ hat1; obtain ⟨A3, cap3, hv3⟩ := owns_form hown1; subst hv3; have HOWN := hide hown1; have HG1 := hide hg1; clear hown1 hg1 hat1)
                go_roundw
                case rel =>
                  refine ⟨3, L ++ [lkAt a b 2], by omega, by go_num, (by show L ++ [lkAt a b 2] = pairsN N a ++ rowN a d ++ (quadN a b 2 ++ [lkAt a b 2]); rw [← List.append_assoc, ← HLE.out]), ?_, Below.grown (Below.allocT HB.out (Nat.le_refl _) _) HG1.out (by have h1 := HSB.out; simp; omega) (fun j hj => (HOW.out.lt j hj).1)⟩
                  rw [List.length_append, lksL_snoc]
                  exact HOWN.out
                case measure => simp [intOf]
              | 3, _ =>
                go_wp2_with (at_builtin; (refine wpList_append_own_at _ rfl (.tmp 23) (.tmp 32) _ rfl w.heap.size 77 i0 _ 4 24 Try.underlying73 hi0 iz0 iz1 iz2 rfl (by omega) _ _ _ rfl (HOW.out.alloc _) ⟨wr.heap.size, 0, none⟩ 1 1 [.int .i64 a, .int .i64 b, .bool true, .bool true] rfl rfl (World.news_of_block (heap_alloc_new wr _)) (by simp [Value.oneCell']) (by have h1 := HLL.out; unfold maxLen; omega) (by have h1 := HLL.out; omega) (by have h1 := HSB.out; simp; omega) ?_); intro v1 w3 hown1 hg1 _ hat1; obtain ⟨A3, cap3, hv3⟩ := owns_form hown1; subst hv3; have HOWN := hide hown1; have HG1 := hide hg1; clear hown1 hg1 hat1)
                go_roundw
                case rel =>
                  refine ⟨4, L ++ [lkAt a b 3], by omega, by go_num, (by show L ++ [lkAt a b 3] = pairsN N a ++ rowN a d ++ (quadN a b 3 ++ [lkAt a b 3]); rw [← List.append_assoc, ← HLE.out]), ?_, Below.grown (Below.allocT HB.out (Nat.le_refl _) _) HG1.out (by have h1 := HSB.out; simp; omega) (fun j hj => (HOW.out.lt j hj).1)⟩
                  rw [List.length_append, lksL_snoc]
                  exact HOWN.out
                case measure => simp [intOf]
            · obtain rfl : k = 4 := by omega
              go_wp2_with fail
              go_roundw
              case rel =>
                refine ⟨d + 1, b + 1, L, by omega, (by have := hb.out; show b + 1 = a + 1 + (d + 1); omega), by go_num, ?_, HOW.out, HB.out⟩
                show L = pairsN N a ++ (rowN a d ++ quadN a (a + 1 + d) 4)
                rw [HLE.out, List.append_assoc, hb.out]
              case measure => simp [intOf]; omega
        · have g1 : ¬ (b : Int) < (N : Int) := by omega
          go_wp2_with fail
          go_roundw
          case rel =>
            refine ⟨a + 1, L1, by omega, by go_num, ?_, hO1.out, hB1.out⟩
            obtain rfl : d = N - (a + 1) := by have := hb.out; omega
            exact hL1.out
          case measure => simp [intOf]; omega
    · obtain rfl : a = N := by omega
      have g0 : ¬ (a : Int) < (a : Int) := by omega
      go_wp2_with fail
      go_ret
      have h1 : L0 = pairsL a := hL0.out
      exact ⟨_, rfl, h1 ▸ hO0.out, hB0.out⟩
theorem Bols.at1 {w : World} {B n cap i : Nat} {A : Option Addr} {l : List Bool} (h : Bols w B (.slice A n cap) l) (hi : i < l.length) : ∃ b off, A = some ⟨b, off, none⟩ ∧ b < B ∧ w.cell? ⟨b, off + i, none⟩ = some (.bool (l.getD i false)) := by
  obtain ⟨A', b, off, cap', he, _, hA, hc⟩ := h
  injection he with e1 _ _
  subst e1
  rcases hA with ⟨hA, hb⟩ | h0
  · refine ⟨b, off, hA, hb, ?_⟩
    have := hc i 0 hi (by omega)
    rwa [Nat.mul_one, Nat.add_zero] at this
  · omega
set_option maxRecDepth 100000 in
set_option maxHeartbeats 8000000 in
theorem rindex_any (L : List (List Bool)) (N : Nat) (x : Lk) (v : Value) (w : World) (h : Vars w w.heap.size v L) (hN : ∀ y ∈ L, y.length = N) (hN2 : N ≤ 12) (hL : L.length ≤ 5000) (ha : x.a < N) (hb : x.b < N) :
    Calls Try.prog 91 #[v, .agg #[.int .i64 x.a, .int .i64 x.b, .bool x.wa, .bool x.wb]] w fun e w' => e = .returned (.int .i64 (idxI (hasX x) L)) ∧ Below w.heap.size w w' := by
  obtain ⟨a, b, wa, wb⟩ := x
  dsimp only at ha hb ⊢
  obtain ⟨rv, ⟨A, b0, off, cap, rfl, hnc, hA, hc⟩, hrow⟩ := h
  have HC := hide hc
  have HA := hide hA
  have HR := hide hrow
  have HN := hide hN
  clear hc hA hrow hN
  go_enter Try.func91, Try.ntmps91
  go_upto_region 1 with (fail)
  generalize hw0 : World.alloc _ _ = w0
  obtain ⟨hb0, hB0, hs0⟩ := alloc1 hw0
  clear hw0
  have HX0 := hide hb0
  have HB0 := hide hB0
  clear hb0 hB0 hs0
  go_wp2_with fail
  go_loopw [5] (fun i wr => ∃ k : Nat, k ≤ L.length ∧ i = .int .i64 k ∧ Hid (∀ j, j < k → hasX ⟨a, b, wa, wb⟩ (L.getD j []) = false) ∧ Hid (Below w0.heap.size w0 wr)) (fun i _ => L.length - (intOf i).toNat)
  case atStart => exact ⟨0, Nat.zero_le _, rfl, fun j hj => absurd hj (by omega), Below.refl _ _⟩
  case round =>
    obtain ⟨k, hk, rfl, hno, hB⟩ := hrel
    have HNO := hide hno.out
    have HBB := hide hB.out
    by_cases hlt : k < L.length
    · obtain ⟨rfl, q1, Ax, capx, q2, q3⟩ := vars_get HA.out HC.out HR.out hlt
      have hBw : Below w.heap.size w wr := Below.to HB0.out hB.out (Nat.le_refl _)
      obtain ⟨y, hy⟩ : ∃ z, L.getD k [] = z := ⟨_, rfl⟩
      have hyl : y.length = N := HN.out y (by rw [← hy]; exact getD_mem hlt)
      rw [hy] at q2 q3
      have q3w : Bols wr w.heap.size (.slice Ax y.length capx) y := Sl.below q3 hBw
      obtain ⟨by1, offy, hax, hby, y1⟩ := Bols.at1 q3w (show a < y.length by omega)
      obtain ⟨by2, offy2, he2, _, y2⟩ := Bols.at1 q3w (show b < y.length by omega)
      subst hax
      injection he2 with he2
      injection he2 with he2 he3
      subst he2 he3
      obtain ⟨ya, hya⟩ : ∃ z, y.getD a false = z := ⟨_, rfl⟩
      obtain ⟨yb, hyb⟩ : ∃ z, y.getD b false = z := ⟨_, rfl⟩
      rw [hya] at y1
      rw [hyb] at y2
      have hhx : hasX ⟨a, b, wa, wb⟩ y = ((ya == wa) && (yb == wb)) := by
        show ((vf y a == wa) && (vf y b == wb)) = _
        rw [← hya, ← hyb]; rfl
      have HHX := hide hhx
      have HY := hide hy
      have hsz := hBw.size
      have e0 : wr.cell? ⟨b0, off + k, none⟩ = some (.slice (some ⟨by1, offy, none⟩) y.length capx) := (hBw.cell (p := ⟨b0, off + k, none⟩) q1).trans q2
      have hl0 : b0 < wr.heap.size := by omega
      have hly : by1 < wr.heap.size := by omega
      have hbx := box_to HX0.out hB.out
      have x0 := cellOf hbx 0
      have x1 := cellOf hbx 1
      have x2 := cellOf hbx 2
      have x3 := cellOf hbx 3
      have lx := box_lt hbx
      have gi0 : (k : Int) < (L.length : Int) := by omega
      have gi1 : (0 : Int) ≤ (k : Int) := by omega
      have gi2 : (a : Int) < (y.length : Int) := by omega
      have gi3 : (0 : Int) ≤ (a : Int) := by omega
      have gi4 : (b : Int) < (y.length : Int) := by omega
      have gi5 : (0 : Int) ≤ (b : Int) := by omega
      have HYL := hide hyl
      clear hhx hy hyl q2 q3 q3w hya hyb hbx hBw hno hB hsz hby
      cases hpa : (ya == wa) with
      | false =>
        go_wp2_with fail
        refine wp_region_held_drew (S := (fun w' => Below wr.heap.size wr w')) (by kernel_rfl) ?_ (fun hHeld => ?_)
        · try dsimp only
          exact (by repeat (first | exact Below.refl _ _ | assumption | refine Below.drew ?_ | refine Below.drewN ?_ _ | refine Below.allocT ?_ (Nat.le_refl _) _ | refine Below.setCell ?_ (by simp <;> omega) _ | refine Below.to ?_ (by assumption) (Nat.le_refl _)))
        refine wpAnyH_take (i := 0) (v := ?v1_0) rfl (by kernel_rfl) (by kernel_rfl) (by kernel_rfl) (fun _ _ _ h => h) (Or.inl ⟨by rfl, ?y1_0⟩) (by assumption) ?r1_0
        case' y1_0 => (intro w hSw; (try dsimp only at hSw); (try have hlS := HLK.out _ hSw); obtain ⟨hcS, hfS⟩ := bcell hSw; clear hSw; go_simp; try with_reducible rfl)
        try simp only [Act.put, List.getElem_toArray, List.getElem_cons_succ, List.getElem_cons_zero, List.setIfInBounds_toArray, List.set_cons_zero, List.set_cons_succ]
        refine wpAnyH_take (i := 1) (v := ?v1_1) rfl (by kernel_rfl) (by kernel_rfl) (by kernel_rfl) (fun _ _ _ h => h) (Or.inl ⟨by rfl, ?y1_1⟩) (by assumption) ?r1_1
        case' y1_1 => (intro w hSw; (try dsimp only at hSw); (try have hlS := HLK.out _ hSw); obtain ⟨hcS, hfS⟩ := bcell hSw; clear hSw; go_simp; try with_reducible rfl)
        try simp only [Act.put, List.getElem_toArray, List.getElem_cons_succ, List.getElem_cons_zero, List.setIfInBounds_toArray, List.set_cons_zero, List.set_cons_succ]
        refine wpAnyH_take (i := 2) (v := ?v1_2) rfl (by kernel_rfl) (by kernel_rfl) (by kernel_rfl) (fun _ _ _ h => h) (Or.inl ⟨by rfl, ?y1_2⟩) (by assumption) ?r1_2
        case' y1_2 => (intro w hSw; (try dsimp only at hSw); (try have hlS := HLK.out _ hSw); obtain ⟨hcS, hfS⟩ := bcell hSw; clear hSw; go_simp; try with_reducible rfl)
        try simp only [Act.put, List.getElem_toArray, List.getElem_cons_succ, List.getElem_cons_zero, List.setIfInBounds_toArray, List.set_cons_zero, List.set_cons_succ]
        refine wpAnyH_take (i := 3) (v := ?v1_3) rfl (by kernel_rfl) (by kernel_rfl) (by kernel_rfl) (fun _ _ _ h => h) (Or.inl ⟨by rfl, ?y1_3⟩) (by assumption) ?r1_3
        case' y1_3 => (intro w hSw; (try dsimp only at hSw); (try have hlS := HLK.out _ hSw); obtain ⟨hcS, hfS⟩ := bcell hSw; clear hSw; go_simp; try with_reducible rfl)
        try simp only [Act.put, List.getElem_toArray, List.getElem_cons_succ, List.getElem_cons_zero, List.setIfInBounds_toArray, List.set_cons_zero, List.set_cons_succ]
        refine wpAnyH_take (i := 4) (v := ?v1_4) rfl (by kernel_rfl) (by kernel_rfl) (by kernel_rfl) (fun _ _ _ h => h) (Or.inl ⟨by rfl, ?y1_4⟩) (by assumption) ?r1_4
        case' y1_4 => (intro w hSw; (try dsimp only at hSw); (try have hlS := HLK.out _ hSw); obtain ⟨hcS, hfS⟩ := bcell hSw; clear hSw; go_simp; try with_reducible rfl)
        try simp only [Act.put, List.getElem_toArray, List.getElem_cons_succ, List.getElem_cons_zero, List.setIfInBounds_toArray, List.set_cons_zero, List.set_cons_succ]
        refine wpAnyH_take (i := 5) (v := ?v1_5) rfl (by kernel_rfl) (by kernel_rfl) (by kernel_rfl) (fun _ _ _ h => h) (Or.inl ⟨by rfl, ?y1_5⟩) (by assumption) ?r1_5
        case' y1_5 => (intro w hSw; (try dsimp only at hSw); (try have hlS := HLK.out _ hSw); obtain ⟨hcS, hfS⟩ := bcell hSw; clear hSw; go_simp; try with_reducible rfl)
        try simp only [Act.put, List.getElem_toArray, List.getElem_cons_succ, List.getElem_cons_zero, List.setIfInBounds_toArray, List.set_cons_zero, List.set_cons_succ]
        refine wpAnyH_take (i := 6) (v := ?v1_6) rfl (by kernel_rfl) (by kernel_rfl) (by kernel_rfl) (fun _ _ _ h => h) (Or.inl ⟨by rfl, ?y1_6⟩) (by assumption) ?r1_6
        case' y1_6 => (intro w hSw; (try dsimp only at hSw); (try have hlS := HLK.out _ hSw); obtain ⟨hcS, hfS⟩ := bcell hSw; clear hSw; go_simp; try with_reducible rfl)
        try simp only [Act.put, List.getElem_toArray, List.getElem_cons_succ, List.getElem_cons_zero, List.setIfInBounds_toArray, List.set_cons_zero, List.set_cons_succ]
        refine wpAnyH_take (i := 7) (v := ?v1_7) rfl (by kernel_rfl) (by kernel_rfl) (by kernel_rfl) (fun _ _ _ h => h) (Or.inl ⟨by rfl, ?y1_7⟩) (by assumption) ?r1_7
        case' y1_7 => (intro w hSw; (try dsimp only at hSw); (try have hlS := HLK.out _ hSw); obtain ⟨hcS, hfS⟩ := bcell hSw; clear hSw; go_simp; try with_reducible rfl)
        try simp only [Act.put, List.getElem_toArray, List.getElem_cons_succ, List.getElem_cons_zero, List.setIfInBounds_toArray, List.set_cons_zero, List.set_cons_succ]
        refine wpAnyH_take (i := 8) (v := ?v1_8) rfl (by kernel_rfl) (by kernel_rfl) (by kernel_rfl) (fun _ _ _ h => h) (Or.inl ⟨by rfl, ?y1_8⟩) (by assumption) ?r1_8
        case' y1_8 => (intro w hSw; (try dsimp only at hSw); (try have hlS := HLK.out _ hSw); obtain ⟨hcS, hfS⟩ := bcell hSw; clear hSw; go_simp; try with_reducible rfl)
        try simp only [Act.put, List.getElem_toArray, List.getElem_cons_succ, List.getElem_cons_zero, List.setIfInBounds_toArray, List.set_cons_zero, List.set_cons_succ]
        refine wpAnyH_take (i := 9) (v := ?v1_9) rfl (by kernel_rfl) (by kernel_rfl) (by kernel_rfl) (fun _ _ _ h => h) (Or.inl ⟨by rfl, ?y1_9⟩) (by assumption) ?r1_9
        case' y1_9 => (intro w hSw; (try dsimp only at hSw); (try have hlS := HLK.out _ hSw); obtain ⟨hcS, hfS⟩ := bcell hSw; clear hSw; go_simp; try with_reducible rfl)
        try simp only [Act.put, List.getElem_toArray, List.getElem_cons_succ, List.getElem_cons_zero, List.setIfInBounds_toArray, List.set_cons_zero, List.set_cons_succ]
        refine wpAnyH_take (i := 10) (v := ?v1_10) rfl (by kernel_rfl) (by kernel_rfl) (by kernel_rfl) (fun _ _ _ h => h) (Or.inl ⟨by rfl, ?y1_10⟩) (by assumption) ?r1_10
        case' y1_10 => (intro w hSw; (try dsimp only at hSw); (try have hlS := HLK.out _ hSw); obtain ⟨hcS, hfS⟩ := bcell hSw; clear hSw; go_simp; try with_reducible rfl)
        try simp only [Act.put, List.getElem_toArray, List.getElem_cons_succ, List.getElem_cons_zero, List.setIfInBounds_toArray, List.set_cons_zero, List.set_cons_succ]
        refine wpAnyH_take (i := 11) (v := ?v1_11) rfl (by kernel_rfl) (by kernel_rfl) (by kernel_rfl) (fun _ _ _ h => h) (Or.inl ⟨by rfl, ?y1_11⟩) (by assumption) ?r1_11
        case' y1_11 => (intro w hSw; (try dsimp only at hSw); (try have hlS := HLK.out _ hSw); obtain ⟨hcS, hfS⟩ := bcell hSw; clear hSw; go_simp; try with_reducible rfl)
        try simp only [Act.put, List.getElem_toArray, List.getElem_cons_succ, List.getElem_cons_zero, List.setIfInBounds_toArray, List.set_cons_zero, List.set_cons_succ]
        refine wpAnyH_take (i := 12) (v := undef) rfl (by kernel_rfl) (by kernel_rfl) (by kernel_rfl) (fun _ _ _ h => h) (Or.inr ⟨?w1_12, rfl⟩) (by assumption) ?r1_12
        case' w1_12 => first | rfl | (simp [Region.wanted, yielded, *]; done)
        try simp only [Act.put, List.getElem_toArray, List.getElem_cons_succ, List.getElem_cons_zero, List.setIfInBounds_toArray, List.set_cons_zero, List.set_cons_succ]
        refine wpAnyH_take (i := 13) (v := undef) rfl (by kernel_rfl) (by kernel_rfl) (by kernel_rfl) (fun _ _ _ h => h) (Or.inr ⟨?w1_13, rfl⟩) (by assumption) ?r1_13
        case' w1_13 => first | rfl | (simp [Region.wanted, yielded, *]; done)
        try simp only [Act.put, List.getElem_toArray, List.getElem_cons_succ, List.getElem_cons_zero, List.setIfInBounds_toArray, List.set_cons_zero, List.set_cons_succ]
        refine wpAnyH_take (i := 14) (v := undef) rfl (by kernel_rfl) (by kernel_rfl) (by kernel_rfl) (fun _ _ _ h => h) (Or.inr ⟨?w1_14, rfl⟩) (by assumption) ?r1_14
        case' w1_14 => first | rfl | (simp [Region.wanted, yielded, *]; done)
        try simp only [Act.put, List.getElem_toArray, List.getElem_cons_succ, List.getElem_cons_zero, List.setIfInBounds_toArray, List.set_cons_zero, List.set_cons_succ]
        refine wpAnyH_take (i := 15) (v := undef) rfl (by kernel_rfl) (by kernel_rfl) (by kernel_rfl) (fun _ _ _ h => h) (Or.inr ⟨?w1_15, rfl⟩) (by assumption) ?r1_15
        case' w1_15 => first | rfl | (simp [Region.wanted, yielded, *]; done)
        try simp only [Act.put, List.getElem_toArray, List.getElem_cons_succ, List.getElem_cons_zero, List.setIfInBounds_toArray, List.set_cons_zero, List.set_cons_succ]
        refine wpAnyH_take (i := 16) (v := undef) rfl (by kernel_rfl) (by kernel_rfl) (by kernel_rfl) (fun _ _ _ h => h) (Or.inr ⟨?w1_16, rfl⟩) (by assumption) ?r1_16
        case' w1_16 => first | rfl | (simp [Region.wanted, yielded, *]; done)
        try simp only [Act.put, List.getElem_toArray, List.getElem_cons_succ, List.getElem_cons_zero, List.setIfInBounds_toArray, List.set_cons_zero, List.set_cons_succ]
        refine wpAnyH_take (i := 17) (v := undef) rfl (by kernel_rfl) (by kernel_rfl) (by kernel_rfl) (fun _ _ _ h => h) (Or.inr ⟨?w1_17, rfl⟩) (by assumption) ?r1_17
        case' w1_17 => first | rfl | (simp [Region.wanted, yielded, *]; done)
        try simp only [Act.put, List.getElem_toArray, List.getElem_cons_succ, List.getElem_cons_zero, List.setIfInBounds_toArray, List.set_cons_zero, List.set_cons_succ]
        refine wpAnyH_take (i := 18) (v := undef) rfl (by kernel_rfl) (by kernel_rfl) (by kernel_rfl) (fun _ _ _ h => h) (Or.inr ⟨?w1_18, rfl⟩) (by assumption) ?r1_18
        case' w1_18 => first | rfl | (simp [Region.wanted, yielded, *]; done)
        try simp only [Act.put, List.getElem_toArray, List.getElem_cons_succ, List.getElem_cons_zero, List.setIfInBounds_toArray, List.set_cons_zero, List.set_cons_succ]
        refine wpAnyH_take (i := 19) (v := undef) rfl (by kernel_rfl) (by kernel_rfl) (by kernel_rfl) (fun _ _ _ h => h) (Or.inr ⟨?w1_19, rfl⟩) (by assumption) ?r1_19
        case' w1_19 => first | rfl | (simp [Region.wanted, yielded, *]; done)
        try simp only [Act.put, List.getElem_toArray, List.getElem_cons_succ, List.getElem_cons_zero, List.setIfInBounds_toArray, List.set_cons_zero, List.set_cons_succ]
        refine wpAnyH_take (i := 20) (v := undef) rfl (by kernel_rfl) (by kernel_rfl) (by kernel_rfl) (fun _ _ _ h => h) (Or.inr ⟨?w1_20, rfl⟩) (by assumption) ?r1_20
        case' w1_20 => first | rfl | (simp [Region.wanted, yielded, *]; done)
        try simp only [Act.put, List.getElem_toArray, List.getElem_cons_succ, List.getElem_cons_zero, List.setIfInBounds_toArray, List.set_cons_zero, List.set_cons_succ]
        refine wpAnyH_take (i := 21) (v := undef) rfl (by kernel_rfl) (by kernel_rfl) (by kernel_rfl) (fun _ _ _ h => h) (Or.inr ⟨?w1_21, rfl⟩) (by assumption) ?r1_21
        case' w1_21 => first | rfl | (simp [Region.wanted, yielded, *]; done)
        try simp only [Act.put, List.getElem_toArray, List.getElem_cons_succ, List.getElem_cons_zero, List.setIfInBounds_toArray, List.set_cons_zero, List.set_cons_succ]
        refine wpAnyH_take (i := 22) (v := undef) rfl (by kernel_rfl) (by kernel_rfl) (by kernel_rfl) (fun _ _ _ h => h) (Or.inr ⟨?w1_22, rfl⟩) (by assumption) ?r1_22
        case' w1_22 => first | rfl | (simp [Region.wanted, yielded, *]; done)
        try simp only [Act.put, List.getElem_toArray, List.getElem_cons_succ, List.getElem_cons_zero, List.setIfInBounds_toArray, List.set_cons_zero, List.set_cons_succ]
        refine wpAnyH_take (i := 23) (v := ?v1_23) rfl (by kernel_rfl) (by kernel_rfl) (by kernel_rfl) (fun _ _ _ h => h) (Or.inl ⟨by rfl, ?y1_23⟩) (by assumption) ?r1_23
        case' y1_23 => (intro w hSw; (try dsimp only at hSw); (try have hlS := HLK.out _ hSw); obtain ⟨hcS, hfS⟩ := bcell hSw; clear hSw; go_simp; try with_reducible rfl)
        try simp only [Act.put, List.getElem_toArray, List.getElem_cons_succ, List.getElem_cons_zero, List.setIfInBounds_toArray, List.set_cons_zero, List.set_cons_succ]
        refine wpAnyH_done (by kernel_rfl) ?_ _
        go_wp2_with fail
        go_roundw
        case rel => exact ⟨k + 1, by omega, by go_num, fun j hj => by
          rcases Nat.lt_or_ge j k with h | h
          · exact HNO.out j h
          · obtain rfl : j = k := by omega
            rw [HY.out, HHX.out, hpa]; rfl, Below.to HBB.out hHeld (Nat.le_refl _)⟩
        case measure => simp [intOf]; omega
      | true =>
        cases hpb : (yb == wb) with
        | false =>
          go_wp2_with fail
          refine wp_region_held_drew (S := (fun w' => Below wr.heap.size wr w')) (by kernel_rfl) ?_ (fun hHeld => ?_)
          · try dsimp only
            exact (by repeat (first | exact Below.refl _ _ | assumption | refine Below.drew ?_ | refine Below.drewN ?_ _ | refine Below.allocT ?_ (Nat.le_refl _) _ | refine Below.setCell ?_ (by simp <;> omega) _ | refine Below.to ?_ (by assumption) (Nat.le_refl _)))
          refine wpAnyH_take (i := 0) (v := ?v2_0) rfl (by kernel_rfl) (by kernel_rfl) (by kernel_rfl) (fun _ _ _ h => h) (Or.inl ⟨by rfl, ?y2_0⟩) (by assumption) ?r2_0
          case' y2_0 => (intro w hSw; (try dsimp only at hSw); (try have hlS := HLK.out _ hSw); obtain ⟨hcS, hfS⟩ := bcell hSw; clear hSw; go_simp; try with_reducible rfl)
          try simp only [Act.put, List.getElem_toArray, List.getElem_cons_succ, List.getElem_cons_zero, List.setIfInBounds_toArray, List.set_cons_zero, List.set_cons_succ]
          refine wpAnyH_take (i := 1) (v := ?v2_1) rfl (by kernel_rfl) (by kernel_rfl) (by kernel_rfl) (fun _ _ _ h => h) (Or.inl ⟨by rfl, ?y2_1⟩) (by assumption) ?r2_1
          case' y2_1 => (intro w hSw; (try dsimp only at hSw); (try have hlS := HLK.out _ hSw); obtain ⟨hcS, hfS⟩ := bcell hSw; clear hSw; go_simp; try with_reducible rfl)
          try simp only [Act.put, List.getElem_toArray, List.getElem_cons_succ, List.getElem_cons_zero, List.setIfInBounds_toArray, List.set_cons_zero, List.set_cons_succ]
          refine wpAnyH_take (i := 2) (v := ?v2_2) rfl (by kernel_rfl) (by kernel_rfl) (by kernel_rfl) (fun _ _ _ h => h) (Or.inl ⟨by rfl, ?y2_2⟩) (by assumption) ?r2_2
          case' y2_2 => (intro w hSw; (try dsimp only at hSw); (try have hlS := HLK.out _ hSw); obtain ⟨hcS, hfS⟩ := bcell hSw; clear hSw; go_simp; try with_reducible rfl)
          try simp only [Act.put, List.getElem_toArray, List.getElem_cons_succ, List.getElem_cons_zero, List.setIfInBounds_toArray, List.set_cons_zero, List.set_cons_succ]
          refine wpAnyH_take (i := 3) (v := ?v2_3) rfl (by kernel_rfl) (by kernel_rfl) (by kernel_rfl) (fun _ _ _ h => h) (Or.inl ⟨by rfl, ?y2_3⟩) (by assumption) ?r2_3
          case' y2_3 => (intro w hSw; (try dsimp only at hSw); (try have hlS := HLK.out _ hSw); obtain ⟨hcS, hfS⟩ := bcell hSw; clear hSw; go_simp; try with_reducible rfl)
          try simp only [Act.put, List.getElem_toArray, List.getElem_cons_succ, List.getElem_cons_zero, List.setIfInBounds_toArray, List.set_cons_zero, List.set_cons_succ]
          refine wpAnyH_take (i := 4) (v := ?v2_4) rfl (by kernel_rfl) (by kernel_rfl) (by kernel_rfl) (fun _ _ _ h => h) (Or.inl ⟨by rfl, ?y2_4⟩) (by assumption) ?r2_4
          case' y2_4 => (intro w hSw; (try dsimp only at hSw); (try have hlS := HLK.out _ hSw); obtain ⟨hcS, hfS⟩ := bcell hSw; clear hSw; go_simp; try with_reducible rfl)
          try simp only [Act.put, List.getElem_toArray, List.getElem_cons_succ, List.getElem_cons_zero, List.setIfInBounds_toArray, List.set_cons_zero, List.set_cons_succ]
          refine wpAnyH_take (i := 5) (v := ?v2_5) rfl (by kernel_rfl) (by kernel_rfl) (by kernel_rfl) (fun _ _ _ h => h) (Or.inl ⟨by rfl, ?y2_5⟩) (by assumption) ?r2_5
          case' y2_5 => (intro w hSw; (try dsimp only at hSw); (try have hlS := HLK.out _ hSw); obtain ⟨hcS, hfS⟩ := bcell hSw; clear hSw; go_simp; try with_reducible rfl)
          try simp only [Act.put, List.getElem_toArray, List.getElem_cons_succ, List.getElem_cons_zero, List.setIfInBounds_toArray, List.set_cons_zero, List.set_cons_succ]
          refine wpAnyH_take (i := 6) (v := ?v2_6) rfl (by kernel_rfl) (by kernel_rfl) (by kernel_rfl) (fun _ _ _ h => h) (Or.inl ⟨by rfl, ?y2_6⟩) (by assumption) ?r2_6
          case' y2_6 => (intro w hSw; (try dsimp only at hSw); (try have hlS := HLK.out _ hSw); obtain ⟨hcS, hfS⟩ := bcell hSw; clear hSw; go_simp; try with_reducible rfl)
          try simp only [Act.put, List.getElem_toArray, List.getElem_cons_succ, List.getElem_cons_zero, List.setIfInBounds_toArray, List.set_cons_zero, List.set_cons_succ]
          refine wpAnyH_take (i := 7) (v := ?v2_7) rfl (by kernel_rfl) (by kernel_rfl) (by kernel_rfl) (fun _ _ _ h => h) (Or.inl ⟨by rfl, ?y2_7⟩) (by assumption) ?r2_7
          case' y2_7 => (intro w hSw; (try dsimp only at hSw); (try have hlS := HLK.out _ hSw); obtain ⟨hcS, hfS⟩ := bcell hSw; clear hSw; go_simp; try with_reducible rfl)
          try simp only [Act.put, List.getElem_toArray, List.getElem_cons_succ, List.getElem_cons_zero, List.setIfInBounds_toArray, List.set_cons_zero, List.set_cons_succ]
          refine wpAnyH_take (i := 8) (v := ?v2_8) rfl (by kernel_rfl) (by kernel_rfl) (by kernel_rfl) (fun _ _ _ h => h) (Or.inl ⟨by rfl, ?y2_8⟩) (by assumption) ?r2_8
          case' y2_8 => (intro w hSw; (try dsimp only at hSw); (try have hlS := HLK.out _ hSw); obtain ⟨hcS, hfS⟩ := bcell hSw; clear hSw; go_simp; try with_reducible rfl)
          try simp only [Act.put, List.getElem_toArray, List.getElem_cons_succ, List.getElem_cons_zero, List.setIfInBounds_toArray, List.set_cons_zero, List.set_cons_succ]
          refine wpAnyH_take (i := 9) (v := ?v2_9) rfl (by kernel_rfl) (by kernel_rfl) (by kernel_rfl) (fun _ _ _ h => h) (Or.inl ⟨by rfl, ?y2_9⟩) (by assumption) ?r2_9
          case' y2_9 => (intro w hSw; (try dsimp only at hSw); (try have hlS := HLK.out _ hSw); obtain ⟨hcS, hfS⟩ := bcell hSw; clear hSw; go_simp; try with_reducible rfl)
          try simp only [Act.put, List.getElem_toArray, List.getElem_cons_succ, List.getElem_cons_zero, List.setIfInBounds_toArray, List.set_cons_zero, List.set_cons_succ]
          refine wpAnyH_take (i := 10) (v := ?v2_10) rfl (by kernel_rfl) (by kernel_rfl) (by kernel_rfl) (fun _ _ _ h => h) (Or.inl ⟨by rfl, ?y2_10⟩) (by assumption) ?r2_10
          case' y2_10 => (intro w hSw; (try dsimp only at hSw); (try have hlS := HLK.out _ hSw); obtain ⟨hcS, hfS⟩ := bcell hSw; clear hSw; go_simp; try with_reducible rfl)
          try simp only [Act.put, List.getElem_toArray, List.getElem_cons_succ, List.getElem_cons_zero, List.setIfInBounds_toArray, List.set_cons_zero, List.set_cons_succ]
          refine wpAnyH_take (i := 11) (v := ?v2_11) rfl (by kernel_rfl) (by kernel_rfl) (by kernel_rfl) (fun _ _ _ h => h) (Or.inl ⟨by rfl, ?y2_11⟩) (by assumption) ?r2_11
          case' y2_11 => (intro w hSw; (try dsimp only at hSw); (try have hlS := HLK.out _ hSw); obtain ⟨hcS, hfS⟩ := bcell hSw; clear hSw; go_simp; try with_reducible rfl)
          try simp only [Act.put, List.getElem_toArray, List.getElem_cons_succ, List.getElem_cons_zero, List.setIfInBounds_toArray, List.set_cons_zero, List.set_cons_succ]
          refine wpAnyH_take (i := 12) (v := ?v2_12) rfl (by kernel_rfl) (by kernel_rfl) (by kernel_rfl) (fun _ _ _ h => h) (Or.inl ⟨by rfl, ?y2_12⟩) (by assumption) ?r2_12
          case' y2_12 => (intro w hSw; (try dsimp only at hSw); (try have hlS := HLK.out _ hSw); obtain ⟨hcS, hfS⟩ := bcell hSw; clear hSw; go_simp; try with_reducible rfl)
          try simp only [Act.put, List.getElem_toArray, List.getElem_cons_succ, List.getElem_cons_zero, List.setIfInBounds_toArray, List.set_cons_zero, List.set_cons_succ]
          refine wpAnyH_take (i := 13) (v := ?v2_13) rfl (by kernel_rfl) (by kernel_rfl) (by kernel_rfl) (fun _ _ _ h => h) (Or.inl ⟨by rfl, ?y2_13⟩) (by assumption) ?r2_13
          case' y2_13 => (intro w hSw; (try dsimp only at hSw); (try have hlS := HLK.out _ hSw); obtain ⟨hcS, hfS⟩ := bcell hSw; clear hSw; go_simp; try with_reducible rfl)
          try simp only [Act.put, List.getElem_toArray, List.getElem_cons_succ, List.getElem_cons_zero, List.setIfInBounds_toArray, List.set_cons_zero, List.set_cons_succ]
          refine wpAnyH_take (i := 14) (v := ?v2_14) rfl (by kernel_rfl) (by kernel_rfl) (by kernel_rfl) (fun _ _ _ h => h) (Or.inl ⟨by rfl, ?y2_14⟩) (by assumption) ?r2_14
          case' y2_14 => (intro w hSw; (try dsimp only at hSw); (try have hlS := HLK.out _ hSw); obtain ⟨hcS, hfS⟩ := bcell hSw; clear hSw; go_simp; try with_reducible rfl)
          try simp only [Act.put, List.getElem_toArray, List.getElem_cons_succ, List.getElem_cons_zero, List.setIfInBounds_toArray, List.set_cons_zero, List.set_cons_succ]
          refine wpAnyH_take (i := 15) (v := ?v2_15) rfl (by kernel_rfl) (by kernel_rfl) (by kernel_rfl) (fun _ _ _ h => h) (Or.inl ⟨by rfl, ?y2_15⟩) (by assumption) ?r2_15
          case' y2_15 => (intro w hSw; (try dsimp only at hSw); (try have hlS := HLK.out _ hSw); obtain ⟨hcS, hfS⟩ := bcell hSw; clear hSw; go_simp; try with_reducible rfl)
          try simp only [Act.put, List.getElem_toArray, List.getElem_cons_succ, List.getElem_cons_zero, List.setIfInBounds_toArray, List.set_cons_zero, List.set_cons_succ]
          refine wpAnyH_take (i := 16) (v := ?v2_16) rfl (by kernel_rfl) (by kernel_rfl) (by kernel_rfl) (fun _ _ _ h => h) (Or.inl ⟨by rfl, ?y2_16⟩) (by assumption) ?r2_16
          case' y2_16 => (intro w hSw; (try dsimp only at hSw); (try have hlS := HLK.out _ hSw); obtain ⟨hcS, hfS⟩ := bcell hSw; clear hSw; go_simp; try with_reducible rfl)
          try simp only [Act.put, List.getElem_toArray, List.getElem_cons_succ, List.getElem_cons_zero, List.setIfInBounds_toArray, List.set_cons_zero, List.set_cons_succ]
          refine wpAnyH_take (i := 17) (v := ?v2_17) rfl (by kernel_rfl) (by kernel_rfl) (by kernel_rfl) (fun _ _ _ h => h) (Or.inl ⟨by rfl, ?y2_17⟩) (by assumption) ?r2_17
          case' y2_17 => (intro w hSw; (try dsimp only at hSw); (try have hlS := HLK.out _ hSw); obtain ⟨hcS, hfS⟩ := bcell hSw; clear hSw; go_simp; try with_reducible rfl)
          try simp only [Act.put, List.getElem_toArray, List.getElem_cons_succ, List.getElem_cons_zero, List.setIfInBounds_toArray, List.set_cons_zero, List.set_cons_succ]
          refine wpAnyH_take (i := 18) (v := ?v2_18) rfl (by kernel_rfl) (by kernel_rfl) (by kernel_rfl) (fun _ _ _ h => h) (Or.inl ⟨by rfl, ?y2_18⟩) (by assumption) ?r2_18
          case' y2_18 => (intro w hSw; (try dsimp only at hSw); (try have hlS := HLK.out _ hSw); obtain ⟨hcS, hfS⟩ := bcell hSw; clear hSw; go_simp; try with_reducible rfl)
          try simp only [Act.put, List.getElem_toArray, List.getElem_cons_succ, List.getElem_cons_zero, List.setIfInBounds_toArray, List.set_cons_zero, List.set_cons_succ]
          refine wpAnyH_take (i := 19) (v := ?v2_19) rfl (by kernel_rfl) (by kernel_rfl) (by kernel_rfl) (fun _ _ _ h => h) (Or.inl ⟨by rfl, ?y2_19⟩) (by assumption) ?r2_19
          case' y2_19 => (intro w hSw; (try dsimp only at hSw); (try have hlS := HLK.out _ hSw); obtain ⟨hcS, hfS⟩ := bcell hSw; clear hSw; go_simp; try with_reducible rfl)
          try simp only [Act.put, List.getElem_toArray, List.getElem_cons_succ, List.getElem_cons_zero, List.setIfInBounds_toArray, List.set_cons_zero, List.set_cons_succ]
          refine wpAnyH_take (i := 20) (v := ?v2_20) rfl (by kernel_rfl) (by kernel_rfl) (by kernel_rfl) (fun _ _ _ h => h) (Or.inl ⟨by rfl, ?y2_20⟩) (by assumption) ?r2_20
          case' y2_20 => (intro w hSw; (try dsimp only at hSw); (try have hlS := HLK.out _ hSw); obtain ⟨hcS, hfS⟩ := bcell hSw; clear hSw; go_simp; try with_reducible rfl)
          try simp only [Act.put, List.getElem_toArray, List.getElem_cons_succ, List.getElem_cons_zero, List.setIfInBounds_toArray, List.set_cons_zero, List.set_cons_succ]
          refine wpAnyH_take (i := 21) (v := ?v2_21) rfl (by kernel_rfl) (by kernel_rfl) (by kernel_rfl) (fun _ _ _ h => h) (Or.inl ⟨by rfl, ?y2_21⟩) (by assumption) ?r2_21
          case' y2_21 => (intro w hSw; (try dsimp only at hSw); (try have hlS := HLK.out _ hSw); obtain ⟨hcS, hfS⟩ := bcell hSw; clear hSw; go_simp; try with_reducible rfl)
          try simp only [Act.put, List.getElem_toArray, List.getElem_cons_succ, List.getElem_cons_zero, List.setIfInBounds_toArray, List.set_cons_zero, List.set_cons_succ]
          refine wpAnyH_take (i := 22) (v := ?v2_22) rfl (by kernel_rfl) (by kernel_rfl) (by kernel_rfl) (fun _ _ _ h => h) (Or.inl ⟨by rfl, ?y2_22⟩) (by assumption) ?r2_22
          case' y2_22 => (intro w hSw; (try dsimp only at hSw); (try have hlS := HLK.out _ hSw); obtain ⟨hcS, hfS⟩ := bcell hSw; clear hSw; go_simp; try with_reducible rfl)
          try simp only [Act.put, List.getElem_toArray, List.getElem_cons_succ, List.getElem_cons_zero, List.setIfInBounds_toArray, List.set_cons_zero, List.set_cons_succ]
          refine wpAnyH_take (i := 23) (v := ?v2_23) rfl (by kernel_rfl) (by kernel_rfl) (by kernel_rfl) (fun _ _ _ h => h) (Or.inl ⟨by rfl, ?y2_23⟩) (by assumption) ?r2_23
          case' y2_23 => (intro w hSw; (try dsimp only at hSw); (try have hlS := HLK.out _ hSw); obtain ⟨hcS, hfS⟩ := bcell hSw; clear hSw; go_simp; try with_reducible rfl)
          try simp only [Act.put, List.getElem_toArray, List.getElem_cons_succ, List.getElem_cons_zero, List.setIfInBounds_toArray, List.set_cons_zero, List.set_cons_succ]
          refine wpAnyH_done (by kernel_rfl) ?_ _
          go_wp2_with fail
          go_roundw
          case rel => exact ⟨k + 1, by omega, by go_num, fun j hj => by
            rcases Nat.lt_or_ge j k with h | h
            · exact HNO.out j h
            · obtain rfl : j = k := by omega
              rw [HY.out, HHX.out, hpa, hpb]; rfl, Below.to HBB.out hHeld (Nat.le_refl _)⟩
          case measure => simp [intOf]; omega
        | true =>
          have hix := idxI_at (hasX ⟨a, b, wa, wb⟩) [] L k HNO.out hlt (by rw [HY.out, HHX.out, hpa, hpb]; rfl)
          have HIX := hide hix
          clear hix
          go_wp2_with fail
          refine wp_region_held_drew (S := (fun w' => Below wr.heap.size wr w')) (by kernel_rfl) ?_ (fun hHeld => ?_)
          · try dsimp only
            exact (by repeat (first | exact Below.refl _ _ | assumption | refine Below.drew ?_ | refine Below.drewN ?_ _ | refine Below.allocT ?_ (Nat.le_refl _) _ | refine Below.setCell ?_ (by simp <;> omega) _ | refine Below.to ?_ (by assumption) (Nat.le_refl _)))
          refine wpAnyH_take (i := 0) (v := ?v3_0) rfl (by kernel_rfl) (by kernel_rfl) (by kernel_rfl) (fun _ _ _ h => h) (Or.inl ⟨by rfl, ?y3_0⟩) (by assumption) ?r3_0
          case' y3_0 => (intro w hSw; (try dsimp only at hSw); (try have hlS := HLK.out _ hSw); obtain ⟨hcS, hfS⟩ := bcell hSw; clear hSw; go_simp; try with_reducible rfl)
          try simp only [Act.put, List.getElem_toArray, List.getElem_cons_succ, List.getElem_cons_zero, List.setIfInBounds_toArray, List.set_cons_zero, List.set_cons_succ]
          refine wpAnyH_take (i := 1) (v := ?v3_1) rfl (by kernel_rfl) (by kernel_rfl) (by kernel_rfl) (fun _ _ _ h => h) (Or.inl ⟨by rfl, ?y3_1⟩) (by assumption) ?r3_1
          case' y3_1 => (intro w hSw; (try dsimp only at hSw); (try have hlS := HLK.out _ hSw); obtain ⟨hcS, hfS⟩ := bcell hSw; clear hSw; go_simp; try with_reducible rfl)
          try simp only [Act.put, List.getElem_toArray, List.getElem_cons_succ, List.getElem_cons_zero, List.setIfInBounds_toArray, List.set_cons_zero, List.set_cons_succ]
          refine wpAnyH_take (i := 2) (v := ?v3_2) rfl (by kernel_rfl) (by kernel_rfl) (by kernel_rfl) (fun _ _ _ h => h) (Or.inl ⟨by rfl, ?y3_2⟩) (by assumption) ?r3_2
          case' y3_2 => (intro w hSw; (try dsimp only at hSw); (try have hlS := HLK.out _ hSw); obtain ⟨hcS, hfS⟩ := bcell hSw; clear hSw; go_simp; try with_reducible rfl)
          try simp only [Act.put, List.getElem_toArray, List.getElem_cons_succ, List.getElem_cons_zero, List.setIfInBounds_toArray, List.set_cons_zero, List.set_cons_succ]
          refine wpAnyH_take (i := 3) (v := ?v3_3) rfl (by kernel_rfl) (by kernel_rfl) (by kernel_rfl) (fun _ _ _ h => h) (Or.inl ⟨by rfl, ?y3_3⟩) (by assumption) ?r3_3
          case' y3_3 => (intro w hSw; (try dsimp only at hSw); (try have hlS := HLK.out _ hSw); obtain ⟨hcS, hfS⟩ := bcell hSw; clear hSw; go_simp; try with_reducible rfl)
          try simp only [Act.put, List.getElem_toArray, List.getElem_cons_succ, List.getElem_cons_zero, List.setIfInBounds_toArray, List.set_cons_zero, List.set_cons_succ]
          refine wpAnyH_take (i := 4) (v := ?v3_4) rfl (by kernel_rfl) (by kernel_rfl) (by kernel_rfl) (fun _ _ _ h => h) (Or.inl ⟨by rfl, ?y3_4⟩) (by assumption) ?r3_4
          case' y3_4 => (intro w hSw; (try dsimp only at hSw); (try have hlS := HLK.out _ hSw); obtain ⟨hcS, hfS⟩ := bcell hSw; clear hSw; go_simp; try with_reducible rfl)
          try simp only [Act.put, List.getElem_toArray, List.getElem_cons_succ, List.getElem_cons_zero, List.setIfInBounds_toArray, List.set_cons_zero, List.set_cons_succ]
          refine wpAnyH_take (i := 5) (v := ?v3_5) rfl (by kernel_rfl) (by kernel_rfl) (by kernel_rfl) (fun _ _ _ h => h) (Or.inl ⟨by rfl, ?y3_5⟩) (by assumption) ?r3_5
          case' y3_5 => (intro w hSw; (try dsimp only at hSw); (try have hlS := HLK.out _ hSw); obtain ⟨hcS, hfS⟩ := bcell hSw; clear hSw; go_simp; try with_reducible rfl)
          try simp only [Act.put, List.getElem_toArray, List.getElem_cons_succ, List.getElem_cons_zero, List.setIfInBounds_toArray, List.set_cons_zero, List.set_cons_succ]
          refine wpAnyH_take (i := 6) (v := ?v3_6) rfl (by kernel_rfl) (by kernel_rfl) (by kernel_rfl) (fun _ _ _ h => h) (Or.inl ⟨by rfl, ?y3_6⟩) (by assumption) ?r3_6
          case' y3_6 => (intro w hSw; (try dsimp only at hSw); (try have hlS := HLK.out _ hSw); obtain ⟨hcS, hfS⟩ := bcell hSw; clear hSw; go_simp; try with_reducible rfl)
          try simp only [Act.put, List.getElem_toArray, List.getElem_cons_succ, List.getElem_cons_zero, List.setIfInBounds_toArray, List.set_cons_zero, List.set_cons_succ]
          refine wpAnyH_take (i := 7) (v := ?v3_7) rfl (by kernel_rfl) (by kernel_rfl) (by kernel_rfl) (fun _ _ _ h => h) (Or.inl ⟨by rfl, ?y3_7⟩) (by assumption) ?r3_7
          case' y3_7 => (intro w hSw; (try dsimp only at hSw); (try have hlS := HLK.out _ hSw); obtain ⟨hcS, hfS⟩ := bcell hSw; clear hSw; go_simp; try with_reducible rfl)
          try simp only [Act.put, List.getElem_toArray, List.getElem_cons_succ, List.getElem_cons_zero, List.setIfInBounds_toArray, List.set_cons_zero, List.set_cons_succ]
          refine wpAnyH_take (i := 8) (v := ?v3_8) rfl (by kernel_rfl) (by kernel_rfl) (by kernel_rfl) (fun _ _ _ h => h) (Or.inl ⟨by rfl, ?y3_8⟩) (by assumption) ?r3_8
          case' y3_8 => (intro w hSw; (try dsimp only at hSw); (try have hlS := HLK.out _ hSw); obtain ⟨hcS, hfS⟩ := bcell hSw; clear hSw; go_simp; try with_reducible rfl)
          try simp only [Act.put, List.getElem_toArray, List.getElem_cons_succ, List.getElem_cons_zero, List.setIfInBounds_toArray, List.set_cons_zero, List.set_cons_succ]
          refine wpAnyH_take (i := 9) (v := ?v3_9) rfl (by kernel_rfl) (by kernel_rfl) (by kernel_rfl) (fun _ _ _ h => h) (Or.inl ⟨by rfl, ?y3_9⟩) (by assumption) ?r3_9
          case' y3_9 => (intro w hSw; (try dsimp only at hSw); (try have hlS := HLK.out _ hSw); obtain ⟨hcS, hfS⟩ := bcell hSw; clear hSw; go_simp; try with_reducible rfl)
          try simp only [Act.put, List.getElem_toArray, List.getElem_cons_succ, List.getElem_cons_zero, List.setIfInBounds_toArray, List.set_cons_zero, List.set_cons_succ]
          refine wpAnyH_take (i := 10) (v := ?v3_10) rfl (by kernel_rfl) (by kernel_rfl) (by kernel_rfl) (fun _ _ _ h => h) (Or.inl ⟨by rfl, ?y3_10⟩) (by assumption) ?r3_10
          case' y3_10 => (intro w hSw; (try dsimp only at hSw); (try have hlS := HLK.out _ hSw); obtain ⟨hcS, hfS⟩ := bcell hSw; clear hSw; go_simp; try with_reducible rfl)
          try simp only [Act.put, List.getElem_toArray, List.getElem_cons_succ, List.getElem_cons_zero, List.setIfInBounds_toArray, List.set_cons_zero, List.set_cons_succ]
          refine wpAnyH_take (i := 11) (v := ?v3_11) rfl (by kernel_rfl) (by kernel_rfl) (by kernel_rfl) (fun _ _ _ h => h) (Or.inl ⟨by rfl, ?y3_11⟩) (by assumption) ?r3_11
          case' y3_11 => (intro w hSw; (try dsimp only at hSw); (try have hlS := HLK.out _ hSw); obtain ⟨hcS, hfS⟩ := bcell hSw; clear hSw; go_simp; try with_reducible rfl)
          try simp only [Act.put, List.getElem_toArray, List.getElem_cons_succ, List.getElem_cons_zero, List.setIfInBounds_toArray, List.set_cons_zero, List.set_cons_succ]
          refine wpAnyH_take (i := 12) (v := ?v3_12) rfl (by kernel_rfl) (by kernel_rfl) (by kernel_rfl) (fun _ _ _ h => h) (Or.inl ⟨by rfl, ?y3_12⟩) (by assumption) ?r3_12
          case' y3_12 => (intro w hSw; (try dsimp only at hSw); (try have hlS := HLK.out _ hSw); obtain ⟨hcS, hfS⟩ := bcell hSw; clear hSw; go_simp; try with_reducible rfl)
          try simp only [Act.put, List.getElem_toArray, List.getElem_cons_succ, List.getElem_cons_zero, List.setIfInBounds_toArray, List.set_cons_zero, List.set_cons_succ]
          refine wpAnyH_take (i := 13) (v := ?v3_13) rfl (by kernel_rfl) (by kernel_rfl) (by kernel_rfl) (fun _ _ _ h => h) (Or.inl ⟨by rfl, ?y3_13⟩) (by assumption) ?r3_13
          case' y3_13 => (intro w hSw; (try dsimp only at hSw); (try have hlS := HLK.out _ hSw); obtain ⟨hcS, hfS⟩ := bcell hSw; clear hSw; go_simp; try with_reducible rfl)
          try simp only [Act.put, List.getElem_toArray, List.getElem_cons_succ, List.getElem_cons_zero, List.setIfInBounds_toArray, List.set_cons_zero, List.set_cons_succ]
          refine wpAnyH_take (i := 14) (v := ?v3_14) rfl (by kernel_rfl) (by kernel_rfl) (by kernel_rfl) (fun _ _ _ h => h) (Or.inl ⟨by rfl, ?y3_14⟩) (by assumption) ?r3_14
          case' y3_14 => (intro w hSw; (try dsimp only at hSw); (try have hlS := HLK.out _ hSw); obtain ⟨hcS, hfS⟩ := bcell hSw; clear hSw; go_simp; try with_reducible rfl)
          try simp only [Act.put, List.getElem_toArray, List.getElem_cons_succ, List.getElem_cons_zero, List.setIfInBounds_toArray, List.set_cons_zero, List.set_cons_succ]
          refine wpAnyH_take (i := 15) (v := ?v3_15) rfl (by kernel_rfl) (by kernel_rfl) (by kernel_rfl) (fun _ _ _ h => h) (Or.inl ⟨by rfl, ?y3_15⟩) (by assumption) ?r3_15
          case' y3_15 => (intro w hSw; (try dsimp only at hSw); (try have hlS := HLK.out _ hSw); obtain ⟨hcS, hfS⟩ := bcell hSw; clear hSw; go_simp; try with_reducible rfl)
          try simp only [Act.put, List.getElem_toArray, List.getElem_cons_succ, List.getElem_cons_zero, List.setIfInBounds_toArray, List.set_cons_zero, List.set_cons_succ]
          refine wpAnyH_take (i := 16) (v := ?v3_16) rfl (by kernel_rfl) (by kernel_rfl) (by kernel_rfl) (fun _ _ _ h => h) (Or.inl ⟨by rfl, ?y3_16⟩) (by assumption) ?r3_16
          case' y3_16 => (intro w hSw; (try dsimp only at hSw); (try have hlS := HLK.out _ hSw); obtain ⟨hcS, hfS⟩ := bcell hSw; clear hSw; go_simp; try with_reducible rfl)
          try simp only [Act.put, List.getElem_toArray, List.getElem_cons_succ, List.getElem_cons_zero, List.setIfInBounds_toArray, List.set_cons_zero, List.set_cons_succ]
          refine wpAnyH_take (i := 17) (v := ?v3_17) rfl (by kernel_rfl) (by kernel_rfl) (by kernel_rfl) (fun _ _ _ h => h) (Or.inl ⟨by rfl, ?y3_17⟩) (by assumption) ?r3_17
          case' y3_17 => (intro w hSw; (try dsimp only at hSw); (try have hlS := HLK.out _ hSw); obtain ⟨hcS, hfS⟩ := bcell hSw; clear hSw; go_simp; try with_reducible rfl)
          try simp only [Act.put, List.getElem_toArray, List.getElem_cons_succ, List.getElem_cons_zero, List.setIfInBounds_toArray, List.set_cons_zero, List.set_cons_succ]
          refine wpAnyH_take (i := 18) (v := ?v3_18) rfl (by kernel_rfl) (by kernel_rfl) (by kernel_rfl) (fun _ _ _ h => h) (Or.inl ⟨by rfl, ?y3_18⟩) (by assumption) ?r3_18
          case' y3_18 => (intro w hSw; (try dsimp only at hSw); (try have hlS := HLK.out _ hSw); obtain ⟨hcS, hfS⟩ := bcell hSw; clear hSw; go_simp; try with_reducible rfl)
          try simp only [Act.put, List.getElem_toArray, List.getElem_cons_succ, List.getElem_cons_zero, List.setIfInBounds_toArray, List.set_cons_zero, List.set_cons_succ]
          refine wpAnyH_take (i := 19) (v := ?v3_19) rfl (by kernel_rfl) (by kernel_rfl) (by kernel_rfl) (fun _ _ _ h => h) (Or.inl ⟨by rfl, ?y3_19⟩) (by assumption) ?r3_19
          case' y3_19 => (intro w hSw; (try dsimp only at hSw); (try have hlS := HLK.out _ hSw); obtain ⟨hcS, hfS⟩ := bcell hSw; clear hSw; go_simp; try with_reducible rfl)
          try simp only [Act.put, List.getElem_toArray, List.getElem_cons_succ, List.getElem_cons_zero, List.setIfInBounds_toArray, List.set_cons_zero, List.set_cons_succ]
          refine wpAnyH_take (i := 20) (v := ?v3_20) rfl (by kernel_rfl) (by kernel_rfl) (by kernel_rfl) (fun _ _ _ h => h) (Or.inl ⟨by rfl, ?y3_20⟩) (by assumption) ?r3_20
          case' y3_20 => (intro w hSw; (try dsimp only at hSw); (try have hlS := HLK.out _ hSw); obtain ⟨hcS, hfS⟩ := bcell hSw; clear hSw; go_simp; try with_reducible rfl)
          try simp only [Act.put, List.getElem_toArray, List.getElem_cons_succ, List.getElem_cons_zero, List.setIfInBounds_toArray, List.set_cons_zero, List.set_cons_succ]
          refine wpAnyH_take (i := 21) (v := ?v3_21) rfl (by kernel_rfl) (by kernel_rfl) (by kernel_rfl) (fun _ _ _ h => h) (Or.inl ⟨by rfl, ?y3_21⟩) (by assumption) ?r3_21
          case' y3_21 => (intro w hSw; (try dsimp only at hSw); (try have hlS := HLK.out _ hSw); obtain ⟨hcS, hfS⟩ := bcell hSw; clear hSw; go_simp; try with_reducible rfl)
          try simp only [Act.put, List.getElem_toArray, List.getElem_cons_succ, List.getElem_cons_zero, List.setIfInBounds_toArray, List.set_cons_zero, List.set_cons_succ]
          refine wpAnyH_take (i := 22) (v := ?v3_22) rfl (by kernel_rfl) (by kernel_rfl) (by kernel_rfl) (fun _ _ _ h => h) (Or.inl ⟨by rfl, ?y3_22⟩) (by assumption) ?r3_22
          case' y3_22 => (intro w hSw; (try dsimp only at hSw); (try have hlS := HLK.out _ hSw); obtain ⟨hcS, hfS⟩ := bcell hSw; clear hSw; go_simp; try with_reducible rfl)
          try simp only [Act.put, List.getElem_toArray, List.getElem_cons_succ, List.getElem_cons_zero, List.setIfInBounds_toArray, List.set_cons_zero, List.set_cons_succ]
          refine wpAnyH_take (i := 23) (v := ?v3_23) rfl (by kernel_rfl) (by kernel_rfl) (by kernel_rfl) (fun _ _ _ h => h) (Or.inl ⟨by rfl, ?y3_23⟩) (by assumption) ?r3_23
          case' y3_23 => (intro w hSw; (try dsimp only at hSw); (try have hlS := HLK.out _ hSw); obtain ⟨hcS, hfS⟩ := bcell hSw; clear hSw; go_simp; try with_reducible rfl)
          try simp only [Act.put, List.getElem_toArray, List.getElem_cons_succ, List.getElem_cons_zero, List.setIfInBounds_toArray, List.set_cons_zero, List.set_cons_succ]
          refine wpAnyH_done (by kernel_rfl) ?_ _
          go_wp2_with fail
          go_ret
          exact ⟨ret_int HIX.out.symm, Below.to HB0.out (Below.to HBB.out hHeld (Nat.le_refl _)) (Nat.le_refl _)⟩
    · obtain rfl : k = L.length := by omega
      have gi0 : ¬ (L.length : Int) < (L.length : Int) := by omega
      have hix := idxI_none (hasX ⟨a, b, wa, wb⟩) [] L HNO.out
      have HIX := hide hix
      clear hix
      go_wp2_with fail
      go_ret
      exact ⟨ret_int HIX.out.symm, Below.to HB0.out HBB.out (Nat.le_refl _)⟩
end Go.Proofs.Ytohofcmikfkilaa
/- Combinations that no variant has, as the elder program has it: walk. -/
namespace Go.Proofs.Ytohofcmikfkilaa
open Go.RowKit
set_option linter.unusedVariables false
set_option linter.unusedSimpArgs false
theorem find_idx {α : Type} (p : α → Bool) (z : α) : ∀ l : List α, (idxI p l < 0 ∧ l.find? p = none ∧ l.any p = false) ∨ ∃ k : Nat, idxI p l = k ∧ k < l.length ∧ l.find? p = some (l.getD k z) ∧ l.any p = true
  | [] => .inl ⟨by simp [idxI], rfl, rfl⟩
  | a :: r => by
    cases h : p a with
    | true => exact .inr ⟨0, by simp [idxI, h], by simp, by simp [h], by simp [h]⟩
    | false =>
      rcases find_idx p z r with ⟨h1, h2, h3⟩ | ⟨k, h1, h2, h3, h4⟩
      · exact .inl ⟨by simp [idxI, h, h1], by simp [h, h2], by simp [h, h3]⟩
      · refine .inr ⟨k + 1, ?_, by simp; omega, by simp [h, h3], by simp [h, h4]⟩
        simp only [idxI, h, h1]
        simp
        omega
theorem lack_any (m : Mo) (x : Lk) : lackB m x = !(allM m).any (hasX x) := by
  unfold lackB noneB
  cases h : (allM m).any (hasX x) with
  | true =>
    rw [Bool.not_true, Bool.eq_false_iff]
    intro he
    obtain ⟨y, h1, h2⟩ := List.any_eq_true.1 h
    have := List.filter_eq_nil_iff.1 (List.isEmpty_iff.1 he) y h1
    exact this h2
  | false =>
    rw [Bool.not_false, List.isEmpty_iff, List.filter_eq_nil_iff]
    intro y h1 h2
    have := List.any_eq_true.2 ⟨y, h1, h2⟩
    rw [h] at this
    cases this
theorem lksAt {w : World} {B n cap k : Nat} {A : Option Addr} {L : List Lk} (h : Lks w B (.slice A n cap) L) (hk : k < L.length) : ∃ b off, A = some ⟨b, off, none⟩ ∧ b < B ∧ w.cell? ⟨b, off + k * 4, none⟩ = some (.int .i64 (L.getD k Lk.z).a) ∧ w.cell? ⟨b, off + k * 4 + 1, none⟩ = some (.int .i64 (L.getD k Lk.z).b) ∧ w.cell? ⟨b, off + k * 4 + 2, none⟩ = some (.bool (L.getD k Lk.z).wa) ∧ w.cell? ⟨b, off + k * 4 + 3, none⟩ = some (.bool (L.getD k Lk.z).wb) := by
  obtain ⟨A', b, off, cap', he, _, hA, hc⟩ := h
  injection he with e1 _ _
  subst e1
  rcases hA with ⟨hA, hb⟩ | h0
  · exact ⟨b, off, hA, hb, hc k 0 hk (by omega), hc k 1 hk (by omega), hc k 2 hk (by omega), hc k 3 hk (by omega)⟩
  · omega
theorem take_getD_lk {L : List Lk} {k : Nat} (h : k < L.length) : L.take (k + 1) = L.take k ++ [L.getD k Lk.z] := by
  rw [List.take_succ_eq_append_getElem h, List.getD_eq_getElem?_getD, List.getElem?_eq_getElem h]; rfl
theorem getD_mem_lk {L : List Lk} {k : Nat} (h : k < L.length) : L.getD k Lk.z ∈ L := by
  rw [List.getD_eq_getElem?_getD, List.getElem?_eq_getElem h]; exact List.getElem_mem h
set_option maxRecDepth 100000 in
set_option maxHeartbeats 8000000 in
theorem rMissing_any (m : Mo) (ov rv : Value) (w : World) (hs : SizedM m) (h : MoAt w w.heap.size ov rv m) (hN : m.err = 0 → m.opts.length ≤ 12) :
    Calls Try.prog 54 #[.agg #[ov, rv]] w (MisP (misL m) m.err w) := by
  obtain ⟨i0, hi0, iz0, iz1, iz2⟩ := info_parts infoLack
  obtain ⟨A, cap, hov⟩ := Sl.form h.o
  obtain ⟨Ar, capr, hrv⟩ := h.r.form
  have H := hide h
  have HS := hide hs
  subst hov hrv
  clear h hs
  go_enter Try.func54, Try.ntmps54
  go_upto_region 1 with (fail)
  generalize hw0 : World.alloc _ _ = w0
  obtain ⟨hb0, hB0, hs0⟩ := alloc1 hw0
  clear hw0
  have HX0 : Hid (MoBox w0 w.heap.size (.slice A m.opts.length cap) (.slice Ar m.rules.length capr)) := hb0
  have HB0 := hide hB0
  have c0 := cellOf hb0 0
  have c1 := cellOf hb0 1
  have hck := rCheckModel_any m (.slice A m.opts.length cap) (.slice Ar m.rules.length capr) w0 HS.out (H.out.up hB0)
  have HCK := hide hck
  clear hb0 hB0 hs0 hck
  by_cases he : m.err = 0
  · have HE := hide he
    have hN2 := hN he
    obtain ⟨z, hz⟩ : ∃ z, (allM m).length = z := ⟨_, rfl⟩
    have HZ := hide hz
    have HP := hide (mis_ok he)
    clear he hN hz
    go_upto_region 4 with (go_at_call 25; refine HCK.out.mono ?_; rw [HE.out]; rintro e w1 ⟨rfl, hB1⟩; have hbx := box_to HX0.out hB1; have HX1 := hide hbx; have d0 := cellOf hbx 0; have d1 := cellOf hbx 1; have HB1 : Hid (Below w.heap.size w w1) := Below.to HB0.out hB1 (Nat.le_refl _); clear hbx hB1 c0 c1)
    go_upto_region 5 with (go_at_call 65; refine (Variants_any m _ _ _ (H.out.up HB1.out) HE.out hN2).mono ?_; rintro e w2 ⟨v2, rfl, hv2, hB2⟩; obtain ⟨A2, cap2, hA2, _, _⟩ := hv2.form; rw [HZ.out] at hA2; subst hA2; have HV2 := hide hv2; have hbx := box_to HX1.out hB2; have HB2 : Hid (Below w.heap.size w w2) := Below.to HB1.out hB2 (Nat.le_refl _); clear hv2 hB2 d0 d1; have d0 := cellOf hbx 0; have l0 := box_lt hbx; clear hbx)
    obtain ⟨P, hP⟩ : ∃ P, pairsL m.opts.length = P := ⟨_, rfl⟩
    have hpa := pairs_any m.opts.length hN2
    have hpl := pairs_len hN2
    have hpi := fun x => @pairs_in m.opts.length x
    rw [hP] at hpa hpl hpi HP
    have HPA := hide hpa
    have HPI := hide hpi
    clear hpa hpi hP
    go_wp2_with (go_at_call 90; refine (HPA.out _).mono ?_; rintro e w3 ⟨v3, rfl, hv3, hB3⟩; obtain ⟨A3, cap3, hA3⟩ := owns_form hv3; subst hA3; have HL3 := hide (Lks.of_own hv3); have HB3 : Hid (Below w.heap.size w w3) := Below.to HB2.out hB3 (Nat.le_refl _); have HV3 : Hid (Vars w3 w3.heap.size (.slice A2 z cap2) (allM m)) := HV2.out.rows.up hB3; clear hv3 hB3 d0 l0)
    go_loopw [7, 8] (fun sv i wr => ∃ (k : Nat) (L : List Lk), k ≤ P.length ∧ i = .int .i64 k ∧ Hid (L = (P.take k).filter (lackB m)) ∧ Hid (wr.ownsRow w3.heap.size 77 4 sv L.length (lksL L)) ∧ Hid (Below w3.heap.size w3 wr)) (fun _ i _ => P.length - (intOf i).toNat)
    case atStart => exact ⟨0, [], Nat.zero_le _, rfl, rfl, World.ownsRow_nil _ _ _ _, Below.refl _ _⟩
    case round =>
      obtain ⟨k, L, hk, rfl, hLE, hO, hB⟩ := hrel
      obtain ⟨A1, cap1, hA1⟩ := owns_form hO.out
      subst hA1
      have hll : L.length ≤ 576 := by
        rw [hLE.out]
        exact Nat.le_trans (List.length_filter_le _ _) (Nat.le_trans (List.length_take_le k P) (by omega))
      have HO := hide hO.out
      have HLE := hide hLE.out
      have HB := hide hB.out
      have HLL := hide hll
      clear hO hLE hll
      by_cases hlt : k < P.length
      · obtain ⟨b, off, hA3, hb3, p0, p1, p2, p3⟩ := lksAt HL3.out hlt
        subst hA3
        obtain ⟨x, hx⟩ : ∃ x, P.getD k Lk.z = x := ⟨_, rfl⟩
        rw [hx] at p0 p1 p2 p3
        have hxi := HPI.out x (by rw [← hx]; exact getD_mem_lk hlt)
        obtain ⟨xa, xb, xwa, xwb⟩ := x
        dsimp only at p0 p1 p2 p3 hxi
        have e0 := (hB.out.cell (p := ⟨b, off + k * 4, none⟩) hb3).trans p0
        have e1 := (hB.out.cell (p := ⟨b, off + k * 4 + 1, none⟩) hb3).trans p1
        have e2 := (hB.out.cell (p := ⟨b, off + k * 4 + 2, none⟩) hb3).trans p2
        have e3 := (hB.out.cell (p := ⟨b, off + k * 4 + 3, none⟩) hb3).trans p3
        have hsz := hB.out.size
        have lb : b < wr.heap.size := by omega
        have gi0 : (k : Int) < (P.length : Int) := by omega
        have gi1 : (0 : Int) ≤ (k : Int) := by omega
        have hix := rindex_any (allM m) m.opts.length ⟨xa, xb, xwa, xwb⟩ (.slice A2 z cap2) wr (HV3.out.up hB.out) (fun y hy => allM_len hy) hN2 (by have := allM_le4 hN2; omega) hxi.1 hxi.2
        have hlk := lack_any m ⟨xa, xb, xwa, xwb⟩
        have htk := take_getD_lk hlt
        rw [hx] at htk
        obtain ⟨q, hq⟩ : ∃ q, idxI (hasX ⟨xa, xb, xwa, xwb⟩) (allM m) = q := ⟨_, rfl⟩
        have hfi := find_idx (hasX ⟨xa, xb, xwa, xwb⟩) [] (allM m)
        rw [hq] at hix hfi
        have HIX := hide hix
        have HTK := hide htk
        have HP0 := hide (And.intro p0 (And.intro p1 (And.intro p2 p3)))
        clear p0 p1 p2 p3 hix htk hx hq hB
        by_cases hq0 : q < 0
        · have hl : lackB m ⟨xa, xb, xwa, xwb⟩ = true := by
            rw [hlk]
            rcases hfi with ⟨_, _, h3⟩ | ⟨k', h1, _⟩
            · rw [h3]; rfl
            · omega
          have hfl : (P.take (k + 1)).filter (lackB m) = L ++ [⟨xa, xb, xwa, xwb⟩] := by
            rw [HTK.out, List.filter_append, ← HLE.out, List.filter_cons, if_pos hl, List.filter_nil]
          have HFL := hide hfl
          clear hl hfl hfi hlk
          go_wp2_with (first
            | (at_builtin; refine wpList_append_own_at _ rfl (.tmp 33) (.tmp 38) _ rfl w3.heap.size 77 i0 _ 4 24 Try.underlying73 hi0 iz0 iz1 iz2 rfl (by omega) _ _ _ rfl (HOC.out.alloc _) ⟨w4.heap.size, 0, none⟩ 1 1 [.int .i64 xa, .int .i64 xb, .bool xwa, .bool xwb] rfl rfl (World.news_of_block (heap_alloc_new w4 _)) (by simp [Value.oneCell']) (by have h1 := HLL.out; unfold maxLen; omega) (by have h1 := HLL.out; omega) (by have h1 := HBC.out.size; simp; omega) ?_; intro v5 w5 hown1 hg1 _ hat1; obtain ⟨A5, cap5, hv5⟩ := owns_form hown1; subst hv5; have HOWN := hide hown1; have HG1 := hide hg1; clear hown1 hg1 hat1)
            | (go_at_call 91; refine HIX.out.mono ?_; rintro e w4 ⟨rfl, hB4⟩; have HOC := hide (owns_below HO.out hB4); have HBC : Hid (Below w3.heap.size w3 w4) := Below.to HB.out hB4 (Nat.le_refl _); have e0 := (HBC.out.cell (p := ⟨b, off + k * 4, none⟩) hb3).trans HP0.out.1; have e1 := (HBC.out.cell (p := ⟨b, off + k * 4 + 1, none⟩) hb3).trans HP0.out.2.1; have e2 := (HBC.out.cell (p := ⟨b, off + k * 4 + 2, none⟩) hb3).trans HP0.out.2.2.1; have e3 := (HBC.out.cell (p := ⟨b, off + k * 4 + 3, none⟩) hb3).trans HP0.out.2.2.2; have lb : b < w4.heap.size := Nat.lt_of_lt_of_le hb3 HBC.out.size; clear hB4))
          go_roundw
          case rel =>
            refine ⟨k + 1, L ++ [(⟨xa, xb, xwa, xwb⟩ : Lk)], by omega, by go_num, HFL.out.symm, ?_, Below.grown (Below.allocT HBC.out (Nat.le_refl _) _) HG1.out (by have h1 := HBC.out.size; simp; omega) (fun j hj => (HOC.out.lt j hj).1)⟩
            rw [List.length_append, lksL_snoc]
            exact HOWN.out
          case measure => simp [intOf]; omega
        · have hl : lackB m ⟨xa, xb, xwa, xwb⟩ = false := by
            rw [hlk]
            rcases hfi with ⟨h1, _⟩ | ⟨k', _, _, _, h4⟩
            · omega
            · rw [h4]; rfl
          have hfl : (P.take (k + 1)).filter (lackB m) = L := by
            rw [HTK.out, List.filter_append, ← HLE.out, List.filter_cons, if_neg (by rw [hl]; simp), List.filter_nil, List.append_nil]
          have HFL := hide hfl
          clear hl hfl hfi hlk
          go_wp2_with (go_at_call 91; refine HIX.out.mono ?_; rintro e w4 ⟨rfl, hB4⟩; have HOC := hide (owns_below HO.out hB4); have HBC : Hid (Below w3.heap.size w3 w4) := Below.to HB.out hB4 (Nat.le_refl _); clear hB4)
          go_roundw
          case rel => exact ⟨k + 1, L, by omega, by go_num, HFL.out.symm, HOC.out, HBC.out⟩
          case measure => simp [intOf]; omega
      · obtain rfl : k = P.length := by omega
        have gi0 : ¬ (P.length : Int) < (P.length : Int) := by omega
        have hLP : misL m = L := by rw [HP.out, HLE.out, List.take_length]
        have HLP := hide hLP
        clear hLP
        go_wp2_with fail
        go_ret2
        rw [HLP.out, HE.out]
        exact ⟨_, rfl, Lks.of_own HO.out, Below.to HB3.out HB.out (Nat.le_refl _)⟩
  · obtain ⟨z, hz⟩ : ∃ z, m.err = z := ⟨_, rfl⟩
    have HP := hide (mis_err he)
    rw [hz] at he
    have hz1 : (z != 0) = true := by simpa using he
    have HZ := hide hz
    clear he hz hN
    go_wp2_with (go_at_call 25; refine HCK.out.mono ?_; rw [HZ.out]; rintro e w1 ⟨rfl, hB1⟩)
    go_ret2
    rw [HP.out, HZ.out]
    exact MisP.none z (Below.to HB0.out hB1 (Nat.le_refl _))
end Go.Proofs.Ytohofcmikfkilaa
/- Variants that have all combinations, as the elder program has it: walk. -/
namespace Go.Proofs.Ytohofcmikfkilaa
open Go.RowKit
set_option linter.unusedVariables false
set_option linter.unusedSimpArgs false
theorem lksL_len (L : List Lk) : (lksL L).length = L.length * 4 := by
  induction L with
  | nil => rfl
  | cons x L ih => show (lksL L).length + 1 + 1 + 1 + 1 = (L.length + 1) * 4; omega
theorem Lks.reads {w : World} {B n cap : Nat} {A : Option Addr} {L : List Lk} (h : Lks w B (.slice A n cap) L) (hn : n = L.length) : Reads w B 4 A L.length (lksL L) := by
  subst hn
  have h2 := Sl.reads h (by omega)
  have e : flat L.length 4 (fun i j => lkF (L.getD i Lk.z) j) = lksL L := by
    apply List.ext_getElem
    · rw [flat_length, lksL_len]
    · intro i q1 q2
      rw [flat_length] at q1
      have h3 := flat_get (n := L.length) (sz := 4) (f := fun i j => lkF (L.getD i Lk.z) j) (i := i / 4) (j := i % 4) (by omega) (by omega)
      have h4 := lksL_get L (i / 4) (i % 4) (by omega) (by omega)
      have h5 : i / 4 * 4 + i % 4 = i := by omega
      rw [h5] at h3 h4
      rw [List.getElem?_eq_getElem (by rw [flat_length]; omega)] at h3
      rw [List.getElem?_eq_getElem q2] at h4
      injection h3 with h3
      injection h4 with h4
      rw [h3, h4]
  rwa [e] at h2
theorem one_lks {L : List Lk} : ∀ u ∈ lksL L, u.oneCell' = true := by
  intro u hu
  unfold lksL at hu
  rw [List.mem_flatMap] at hu
  obtain ⟨x, _, hx⟩ := hu
  simp at hx
  rcases hx with rfl | rfl | rfl | rfl <;> rfl
theorem lksL_app (L M : List Lk) : lksL (L ++ M) = lksL L ++ lksL M := by simp [lksL]
set_option maxRecDepth 100000 in
set_option maxHeartbeats 8000000 in
theorem rCover_any (m : Mo) (ov rv : Value) (w : World) (hs : SizedM m) (h : MoAt w w.heap.size ov rv m) (hN : m.err = 0 → m.opts.length ≤ 12) :
    Calls Try.prog 56 #[.agg #[ov, rv]] w (ListP (covL m) m.err w) := by
  obtain ⟨i0, hi0, iz0, iz1, iz2⟩ := info_parts infoLack
  obtain ⟨i1, hi1, jz0, jz1, jz2⟩ := info_parts infoBools
  obtain ⟨A, cap, hov⟩ := Sl.form h.o
  obtain ⟨Ar, capr, hrv⟩ := h.r.form
  have H := hide h
  have HS := hide hs
  subst hov hrv
  clear h hs
  go_enter Try.func56, Try.ntmps56
  go_upto_region 1 with (fail)
  generalize hw0 : World.alloc _ _ = w0
  obtain ⟨hb0, hB0, hs0⟩ := alloc1 hw0
  clear hw0
  have HX0 : Hid (MoBox w0 w.heap.size (.slice A m.opts.length cap) (.slice Ar m.rules.length capr)) := hb0
  have HB0 := hide hB0
  have c0 := cellOf hb0 0
  have c1 := cellOf hb0 1
  have hck := rCheckModel_any m (.slice A m.opts.length cap) (.slice Ar m.rules.length capr) w0 HS.out (H.out.up hB0)
  have HCK := hide hck
  clear hb0 hB0 hs0 hck
  by_cases he : m.err = 0
  · have HE := hide he
    have hN2 := hN he
    obtain ⟨z, hz⟩ : ∃ z, (allM m).length = z := ⟨_, rfl⟩
    have HZ := hide hz
    have HCV := hide (cov_ok he)
    clear he hN hz
    go_upto_region 4 with (go_at_call 25; refine HCK.out.mono ?_; rw [HE.out]; rintro e w1 ⟨rfl, hB1⟩; have hbx := box_to HX0.out hB1; have HX1 := hide hbx; have d0 := cellOf hbx 0; have d1 := cellOf hbx 1; have HB1 : Hid (Below w.heap.size w w1) := Below.to HB0.out hB1 (Nat.le_refl _); clear hbx hB1 c0 c1)
    go_upto_region 5 with (go_at_call 65; refine (Variants_any m _ _ _ (H.out.up HB1.out) HE.out hN2).mono ?_; rintro e w2 ⟨v2, rfl, hv2, hB2⟩; obtain ⟨A2, cap2, hA2, _, _⟩ := hv2.form; rw [HZ.out] at hA2; subst hA2; have HV2 := hide hv2.rows; have HX2 := hide (box_to HX1.out hB2); have HB2 : Hid (Below w.heap.size w w2) := Below.to HB1.out hB2 (Nat.le_refl _); clear hv2 hB2 d0 d1)
    obtain ⟨P, hP⟩ : ∃ P, pairsL m.opts.length = P := ⟨_, rfl⟩
    have hpa := pairs_any m.opts.length hN2
    have hpl := pairs_len hN2
    rw [hP] at hpa hpl
    have HPA := hide hpa
    have HPL := hide hpl
    have HPP := hide hP
    clear hpa hP hpl
    go_wp2_with fail
    go_loopw [6, 7] (fun sv i wr => ∃ (k : Nat) (L : List Lk), k ≤ m.opts.length ∧ i = .int .i64 k ∧ Hid (L = selfN k) ∧ Hid (wr.ownsRow w2.heap.size 77 4 sv L.length (lksL L)) ∧ Hid (Below w2.heap.size w2 wr)) (fun _ i _ => m.opts.length - (intOf i).toNat)
    case atStart => exact ⟨0, [], Nat.zero_le _, rfl, rfl, World.ownsRow_nil _ _ _ _, Below.refl _ _⟩
    case round =>
      obtain ⟨k, L, hk, rfl, hLE, hO, hB⟩ := hrel
      obtain ⟨A1, cap1, hA1⟩ := owns_form hO.out
      subst hA1
      have hll : L.length ≤ 24 := by rw [hLE.out, selfN_len]; omega
      have hbx := box_to HX2.out hB.out
      have d0 := cellOf hbx 0
      have l0 := box_lt hbx
      have HO := hide hO.out
      have HLE := hide hLE.out
      have HB := hide hB.out
      have HLL := hide hll
      have HBS : Hid (w2.heap.size ≤ wr.heap.size) := hB.out.size
      clear hO hLE hB hll hbx
      by_cases hlt : k < m.opts.length
      · have gi0 : (k : Int) < (m.opts.length : Int) := by omega
        go_wp2_with (at_builtin; refine wpList_append_own_at _ rfl (.tmp 25) (.tmp 32) _ rfl w2.heap.size 77 i0 _ 4 24 Try.underlying73 hi0 iz0 iz1 iz2 rfl (by omega) _ _ _ rfl (HO.out.alloc _) ⟨wr.heap.size, 0, none⟩ 2 2 [.int .i64 k, .int .i64 k, .bool false, .bool false, .int .i64 k, .int .i64 k, .bool true, .bool true] rfl rfl (World.news_of_block (heap_alloc_new wr _)) (by simp [Value.oneCell']) (by have h1 := HLL.out; unfold maxLen; omega) (by have h1 := HLL.out; omega) (by have h1 := HBS.out; simp; omega) ?_; intro v5 w5 hown1 hg1 _ hat1; obtain ⟨A5, cap5, hv5⟩ := owns_form hown1; subst hv5; have HOWN := hide hown1; have HG1 := hide hg1; clear hown1 hg1 hat1)
        go_roundw
        case rel =>
          refine ⟨k + 1, L ++ [(⟨k, k, false, false⟩ : Lk), ⟨k, k, true, true⟩], by omega, by go_num, ?_, ?_, Below.grown (Below.allocT HB.out (Nat.le_refl _) _) HG1.out (by have h1 := HBS.out; simp; omega) (fun j hj => (HO.out.lt j hj).1)⟩
          · show _ = selfN k ++ _
            rw [← HLE.out]
          · rw [List.length_append, lksL_app]
            exact HOWN.out
        case measure => simp [intOf]; omega
      · obtain rfl : k = m.opts.length := by omega
        have gi0 : ¬ (m.opts.length : Int) < (m.opts.length : Int) := by omega
        go_upto_region 12 with (first
          | (at_builtin; (refine wpList_append_any _ rfl (.tmp 34) (.tmp 38) _ rfl w2.heap.size 77 i0 _ 4 24 Try.underlying73 hi0 iz0 iz1 iz2 rfl (by decide) (.slice A1 L.length cap1) L.length (lksL L) rfl HO4.out w4.heap.size A4 P.length cap4 (lksL P) rfl (HL4.out.reads rfl) one_lks (by have h1 := HLL.out; have h2 := HPL.out; unfold maxLen; omega) (by have h1 := HLL.out; have h2 := HPL.out; omega) HB4.out.size ?_); intro v5 w5 hown5 hg5 _; obtain ⟨A5, cap5, hv5⟩ := owns_form hown5; subst hv5; have HOWN5 := hide hown5; have HB5 : Hid (Below w2.heap.size w2 w5) := Below.grown HB4.out hg5 HB4.out.size (fun j hj => (HO4.out.lt j hj).1); clear hown5 hg5)
          | (go_at_call 90; refine (HPA.out _).mono ?_; rintro e w4 ⟨v4, rfl, hv4, hB4⟩; obtain ⟨A4, cap4, hA4⟩ := owns_form hv4; subst hA4; have HL4 := hide (Lks.of_own hv4); have HO4 := hide (owns_below HO.out hB4); have HB4 : Hid (Below w2.heap.size w2 w4) := Below.to HB.out hB4 (Nat.le_refl _); clear hv4 hB4 d0 l0))
        obtain ⟨Wl, hWl⟩ : ∃ x, L ++ P = x := ⟨_, rfl⟩
        have hWw : wantL m.opts.length = Wl := by rw [← hWl, HLE.out, ← HPP.out]; rfl
        have hwl : Wl.length = L.length + P.length := by rw [← hWl, List.length_append]
        have hlw : Lks w5 w5.heap.size (.slice A5 (L.length + P.length) cap5) Wl := by
          have h1 := HOWN5.out
          rw [← lksL_app, hWl, ← hwl] at h1
          rw [← hwl]
          exact Lks.of_own h1
        have hwi : ∀ x ∈ Wl, x.a < m.opts.length ∧ x.b < m.opts.length := fun x hx => by
          rw [← hWl] at hx
          rcases List.mem_append.1 hx with h | h
          · rw [HLE.out] at h; exact selfN_in _ h
          · rw [← HPP.out] at h; exact pairs_in h
        obtain ⟨wn, hwn⟩ : ∃ x, L.length + P.length = x := ⟨_, rfl⟩
        rw [hwn] at hwl hlw ⊢
        have hwn2 : wn ≤ 600 := by have h1 := HLL.out; have h2 := HPL.out; omega
        have HLW := hide hlw
        have HWL := hide hwl
        have HWI := hide hwi
        have HWN := hide hwn2
        have HCV2 : Hid (covL m = Wl.foldl (covS m) []) := by rw [← hWw]; exact HCV.out
        have HV5 : Hid (Vars w5 w5.heap.size (.slice A2 z cap2) (allM m)) := HV2.out.up HB5.out
        clear hWl hWw hwl hlw hwi hwn hwn2 HOWN5
        go_wp2_with fail
        go_loopw [8, 9] (fun sv i wr => ∃ (k : Nat) (M : List (List Bool)), k ≤ wn ∧ i = .int .i64 k ∧ Hid (M = (Wl.take k).foldl (covS m) []) ∧ Hid (VStk (fun _ => False) w5.heap.size wr sv M) ∧ Hid (Below w5.heap.size w5 wr)) (fun _ i _ => wn - (intOf i).toNat)
        case atStart => exact ⟨0, [], Nat.zero_le _, rfl, rfl, GStk.nil _ _, Below.refl _ _⟩
        case round =>
          obtain ⟨k, M, hk, rfl, hME, hS, hB⟩ := hrel
          obtain ⟨A6, cap6, hA6, hc61, hc62⟩ := hS.out.form
          subst hA6
          have HB6 := hide hB.out
          have HME := hide hME.out
          have hmall : ∀ y ∈ M, y ∈ allM m := by rw [hME.out]; exact covF_in _ _ (fun y hy => by simp at hy)
          have hml : M.length ≤ 600 := by
            rw [hME.out]
            have h1 := covF_len m (Wl.take k) []
            have h2 := List.length_take_le k Wl
            have h3 := HWN.out
            simp only [List.length_nil] at h1
            omega
          have HMA := hide hmall
          have HML := hide hml
          have HS6 := hide hS.out
          clear hME hS hmall hml
          by_cases hlt : k < wn
          · obtain ⟨b, off, hA5, hb5, p0, p1, p2, p3⟩ := lksAt (HWL.out ▸ HLW.out) (show k < Wl.length by have := HWL.out; omega)
            subst hA5
            obtain ⟨x, hx⟩ : ∃ x, Wl.getD k Lk.z = x := ⟨_, rfl⟩
            rw [hx] at p0 p1 p2 p3
            have hxi := HWI.out x (by rw [← hx]; exact getD_mem_lk (by have := HWL.out; omega))
            obtain ⟨xa, xb, xwa, xwb⟩ := x
            dsimp only at p0 p1 p2 p3 hxi
            have e0 := (hB.out.cell (p := ⟨b, off + k * 4, none⟩) hb5).trans p0
            have e1 := (hB.out.cell (p := ⟨b, off + k * 4 + 1, none⟩) hb5).trans p1
            have e2 := (hB.out.cell (p := ⟨b, off + k * 4 + 2, none⟩) hb5).trans p2
            have e3 := (hB.out.cell (p := ⟨b, off + k * 4 + 3, none⟩) hb5).trans p3
            have hsz := hB.out.size
            have lb : b < wr.heap.size := by omega
            have gi0 : (k : Int) < (wn : Int) := by omega
            have hk600 : k < 600 := by have := HWN.out; omega
            have gi1 : (0 : Int) ≤ (k : Int) := by omega
            have hix := rindex_any (allM m) m.opts.length ⟨xa, xb, xwa, xwb⟩ (.slice A2 z cap2) wr (HV5.out.up hB.out) (fun y hy => allM_len hy) hN2 (by have := allM_le4 hN2; omega) hxi.1 hxi.2
            have hix2 := fun w6 (hm : Vars w6 w6.heap.size (.slice A6 M.length cap6) M) => rindex_any M m.opts.length ⟨xa, xb, xwa, xwb⟩ (.slice A6 M.length cap6) w6 hm (fun y hy => allM_len (HMA.out y hy)) hN2 (by have := HML.out; omega) hxi.1 hxi.2
            have htk := take_getD_lk (L := Wl) (k := k) (by have := HWL.out; omega)
            rw [hx] at htk
            have hstep : (Wl.take (k + 1)).foldl (covS m) [] = covS m M ⟨xa, xb, xwa, xwb⟩ := by
              rw [htk, List.foldl_append, ← HME.out]; rfl
            obtain ⟨q, hq⟩ : ∃ q, idxI (hasX ⟨xa, xb, xwa, xwb⟩) (allM m) = q := ⟨_, rfl⟩
            obtain ⟨p, hp⟩ : ∃ p, idxI (hasX ⟨xa, xb, xwa, xwb⟩) M = p := ⟨_, rfl⟩
            have hfi := find_idx (hasX ⟨xa, xb, xwa, xwb⟩) [] (allM m)
            have hfj := find_idx (hasX ⟨xa, xb, xwa, xwb⟩) [] M
            rw [hq] at hix hfi
            rw [hp] at hix2 hfj
            have HIX := hide hix
            have HIX2 := hide hix2
            have HST := hide hstep
            have HP0 := hide (And.intro p0 (And.intro p1 (And.intro p2 p3)))
            clear p0 p1 p2 p3 hix hix2 htk hx hq hp hB hstep
            by_cases hq0 : q < 0
            · have hcs : covS m M ⟨xa, xb, xwa, xwb⟩ = M := by
                rcases hfi with ⟨_, h2, _⟩ | ⟨k', h1, _⟩
                · unfold covS
                  rw [h2]
                  split <;> rfl
                · omega
              have HCS := hide (HST.out.trans hcs)
              have hq1 : ¬ (0 : Int) ≤ q := by omega
              clear hcs hfi hfj hq0
              go_wp2_with (go_at_call 91; refine HIX.out.mono ?_; rintro e w6 ⟨rfl, hB6⟩; have HB7 := hide hB6; clear hB6)
              go_roundw
              case rel => exact ⟨k + 1, M, by omega, by go_num, HCS.out.symm, HS6.out.below HB7.out, Below.to HB6.out HB7.out (Nat.le_refl _)⟩
              case measure => simp [intOf]; omega
            · obtain ⟨qn, hqn, hqlt, hqf, _⟩ : ∃ kq : Nat, q = kq ∧ kq < (allM m).length ∧ (allM m).find? (hasX ⟨xa, xb, xwa, xwb⟩) = some ((allM m).getD kq []) ∧ (allM m).any (hasX ⟨xa, xb, xwa, xwb⟩) = true := by
                rcases hfi with ⟨h1, _⟩ | ⟨kq, h1⟩
                · omega
                · exact ⟨kq, h1⟩
              subst hqn
              have hq1 : (0 : Int) ≤ (qn : Int) := by omega
              have hq2 : (qn : Int) < (z : Int) := by have := HZ.out; omega
              clear hq0 hfi
              go_upto_region 16 with (go_at_call 91; refine HIX.out.mono ?_; rintro e w6 ⟨rfl, hB6⟩; have HB7 := hide hB6; have HBC : Hid (Below w5.heap.size w5 w6) := Below.to HB6.out hB6 (Nat.le_refl _); have e0 := (HBC.out.cell (p := ⟨b, off + k * 4, none⟩) hb5).trans HP0.out.1; have e1 := (HBC.out.cell (p := ⟨b, off + k * 4 + 1, none⟩) hb5).trans HP0.out.2.1; have e2 := (HBC.out.cell (p := ⟨b, off + k * 4 + 2, none⟩) hb5).trans HP0.out.2.2.1; have e3 := (HBC.out.cell (p := ⟨b, off + k * 4 + 3, none⟩) hb5).trans HP0.out.2.2.2; have lb : b < w6.heap.size := Nat.lt_of_lt_of_le hb5 HBC.out.size; clear hB6)
              by_cases hp0 : p < 0
              · have hcs : covS m M ⟨xa, xb, xwa, xwb⟩ = M ++ [(allM m).getD qn []] := by
                  rcases hfj with ⟨_, _, h3⟩ | ⟨k', h1, _⟩
                  · unfold covS
                    rw [if_neg (by rw [h3]; simp), hqf]
                  · omega
                have HCS := hide (HST.out.trans hcs)
                obtain ⟨rvs, ⟨Aq, bq, offq, capq, hAq, hncq, hAAq, hcq⟩, hrq⟩ := HV5.out
                injection hAq with eq1 eq2 eq3
                subst eq1 eq3
                obtain ⟨hA2, hbq, Ax, capx, y1, y2⟩ := vars_get hAAq hcq hrq hqlt
                subst hA2
                obtain ⟨y, hy⟩ : ∃ y, (allM m).getD qn [] = y := ⟨_, rfl⟩
                rw [hy] at y1 y2 HCS
                obtain ⟨vs, hgs⟩ := HS6.out.below HB7.out
                have HGS := hide hgs
                have HY2 := hide y2
                have HY1 := hide y1
                have hbq6 : bq < w5.heap.size := hbq
                clear hcs hfj hqf hy y1 y2 hgs hncq hAAq hcq hrq eq2
                go_wp2_with (first
                  | (at_builtin; refine wpList_append_own_at _ rfl (.tmp 63) (.tmp 68) _ rfl w5.heap.size 29 i1 _ 1 24 Try.underlying53 hi1 jz0 jz1 jz2 rfl (by omega) _ _ _ rfl (HGS8.out.own.alloc _) ⟨w8.heap.size, 0, none⟩ 1 1 [.slice Ax y.length capx] rfl rfl (World.news_of_block (heap_alloc_new w8 _)) (by simp [Value.oneCell']) (by have h1 := HML.out; unfold maxLen; omega) (by have h1 := HML.out; omega) (by have h1 := HBD.out.size; simp; omega) ?_; intro v9 w9 hown1 hg1 _ hat1; obtain ⟨A9, cap9, hv9⟩ := owns_form hown1; subst hv9; have HOWN := hide hown1; have HG1 := hide hg1; have HAT := hide hat1; clear hown1 hg1 hat1)
                  | (go_at_call 91; refine (HIX2.out _ (HS6.out.below HB7.out).rows).mono ?_; rintro e w8 ⟨rfl, hB8⟩; have HB8 := hide hB8; have HBD : Hid (Below w5.heap.size w5 w8) := Below.to HBC.out hB8 (Nat.le_refl _); have HGS8 := hide (HGS.out.below hB8); have y0 := (HBD.out.cell (p := ⟨bq, offq + qn, none⟩) hbq6).trans HY1.out; have lq : bq < w8.heap.size := Nat.lt_of_lt_of_le hbq6 HBD.out.size; clear hB8))
                go_roundw
                case rel =>
                  have hrr : Bols w8 w8.heap.size (.slice Ax y.length capx) y := Sl.more (Sl.below HY2.out HBD.out) HBD.out.size
                  have hpp := HGS8.out.push hrr (fun hl b hb => ⟨fun h => h, fun hc => by
                    have h1 := HGS8.out.own.lt b hc
                    obtain ⟨b', _, _, _, hlt', hob⟩ := GRow.block (enc := Value.bool) (z := false) HY2.out hl
                    rw [hob] at hb
                    injection hb with hb
                    omega⟩) (fun _ h => h.elim) HOWN.out HG1.out HAT.out
                  have hlo : ∀ i, (Value.slice A6 M.length cap6).ownBlock = some i → w5.heap.size ≤ i := fun i hi => (HGS8.out.own.lt i hi).1
                  exact ⟨k + 1, M ++ [y], by omega, by go_num, HCS.out.symm, hpp.1, HBD.out.trans (hpp.2.below HBD.out.size (fun k hk => hlo k hk))⟩
                case measure => simp [intOf]; omega
              · have hcs : covS m M ⟨xa, xb, xwa, xwb⟩ = M := by
                  rcases hfj with ⟨h1, _⟩ | ⟨k', _, _, _, h4⟩
                  · omega
                  · unfold covS
                    rw [if_pos h4]
                have HCS := hide (HST.out.trans hcs)
                clear hcs hfj hqf
                go_wp2_with (go_at_call 91; refine (HIX2.out _ (HS6.out.below HB7.out).rows).mono ?_; rintro e w8 ⟨rfl, hB8⟩; have HB8 := hide hB8; clear hB8)
                go_roundw
                case rel => exact ⟨k + 1, M, by omega, by go_num, HCS.out.symm, (HS6.out.below HB7.out).below HB8.out, Below.to HBC.out HB8.out (Nat.le_refl _)⟩
                case measure => simp [intOf]; omega
          · obtain rfl : k = wn := by omega
            have gi0 : ¬ (k : Int) < (k : Int) := by omega
            have hLP : covL m = M := by
              rw [HCV2.out, HME.out, List.take_of_length_le (by have := HWL.out; omega)]
            have HLP := hide hLP
            clear hLP
            go_wp2_with fail
            go_ret2
            rw [HLP.out, HE.out]
            exact ⟨_, rfl, HS6.out.rows, Below.to HB2.out (Below.to HB5.out HB6.out (Nat.le_refl _)) (Nat.le_refl _)⟩
  · obtain ⟨z, hz⟩ : ∃ z, m.err = z := ⟨_, rfl⟩
    have HP := hide (cov_err he)
    rw [hz] at he
    have hz1 : (z != 0) = true := by simpa using he
    have HZ := hide hz
    clear he hz hN
    go_wp2_with (go_at_call 25; refine HCK.out.mono ?_; rw [HZ.out]; rintro e w1 ⟨rfl, hB1⟩)
    go_ret2
    rw [HP.out, HZ.out]
    exact ListP.none z (Below.to HB0.out hB1 (Nat.le_refl _))
end Go.Proofs.Ytohofcmikfkilaa

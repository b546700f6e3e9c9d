/- Part 25 of this claim's texts: walks and plain laws. -/
import Derived.Test.YtmabfnddedffoaaRows
import Derived.Test.YtmabfnddedffoaaGLC24
import Derived.Test.YtmabfnddedffoaaGLC23
import Derived.Deep.RegionHeld3
import Derived.Deep.DrawnRows
import Derived.BigQuiet
import Derived.WalkSpells
import Derived.Lib.SliceRun
import Derived.Test.YtmabfnddedffoaaGLC3
/- The variant with a number: walk. -/
namespace Go.Proofs.Ytmabfnddedffoaa
open Go.RowKit
set_option linter.unusedVariables false
set_option linter.unusedSimpArgs false
theorem and1 (x : Int) (h0 : 0 ≤ x) (h1 : x < 9223372036854775808) : bits .and .i64 x 1 = x % 2 := by
  have h := bits_mask .i64 63 (by decide) wrap_small 1 (by decide) x h0 (by simpa using h1)
  have e : ((2 : Int) ^ 1 - 1) = 1 := by decide
  have e2 : ((2 : Int) ^ 1) = 2 := by decide
  rw [e, e2] at h
  exact h
theorem bit_one (n d : Nat) (h : n < 9223372036854775808) : decide (n / 2 ^ d % 2 = 1) = (bits .and .i64 ((n : Int) / 2 ^ d) 1 == 1) := by
  have e : (n : Int) / 2 ^ d = ((n / 2 ^ d : Nat) : Int) := by simp
  have h2 : n / 2 ^ d ≤ n := Nat.div_le_self _ _
  rw [e]
  generalize n / 2 ^ d = q at h2 ⊢
  rw [and1 _ (by omega) (by omega)]
  by_cases h3 : q % 2 = 1
  · simp [h3]; omega
  · simp [h3]; omega
set_option maxRecDepth 100000 in
set_option maxHeartbeats 2000000 in
theorem variant_any (N n : Nat) (w : World) (hN : N ≤ 12) (hn : n < 2 ^ N) :
    Calls Try.prog 169 #[.int .i64 n, .int .i64 N] w fun e w' => e = .returned (.slice (some ⟨w.heap.size, 0, none⟩) N N) ∧ VarAt w' w.heap.size N (bitsN N n) ∧ Below w.heap.size w w' := by
  obtain ⟨i1, hi1, jz0, jz1, jz2⟩ := info_parts infoBool
  have hmk : ∀ W : World, (Instr.makeSlice 38 (.int .i64 N) (.int .i64 N)).run Try.prog W = .ok (.slice (some ⟨W.heap.size, 0, none⟩) N N) (W.alloc (.cells (madeCells #[.bool false] (N * 1)) 4)) := fun W => by
    have h1 := run_make (P := Try.prog) W 38 4 i1 (.bool false) Try.underlying38 hi1 jz0 .i64 .i64 N N (by omega) (Int.le_refl _) (by rw [jz2]; omega) (by omega)
    rw [jz1] at h1
    simpa [Value.cells] using h1
  go_enter Try.func169, Try.ntmps169
  go_wp2
  generalize hw0 : World.alloc _ _ = w0
  obtain ⟨hb0, hB0, hs0⟩ := alloc1 hw0
  clear hw0
  have hva : VarAt w0 w.heap.size N [] := by
    unfold VarAt
    rw [hb0, made_bools]
    rfl
  have HVA := hide hva
  have HB0 := hide hB0
  clear hb0 hB0 hs0 hva hmk
  have hn12 : (n : Int) < 4096 := by
    have : 2 ^ N ≤ 2 ^ 12 := Nat.pow_le_pow_right (by omega) hN
    omega
  go_loopw [6] (fun i wr => ∃ k : Nat, k ≤ N ∧ i = .int .i64 k ∧ Hid (VarAt wr w.heap.size N ((bitsN N n).take k)) ∧ Hid (Below w.heap.size w wr)) (fun i _ => N - (intOf i).toNat)
  case atStart => exact ⟨0, Nat.zero_le _, rfl, HVA.out, HB0.out⟩
  case round =>
    obtain ⟨k, hk, rfl, hV, hB⟩ := hrel
    by_cases hlt : k < N
    · have hll : ((bitsN N n).take k).length = k := by simp [bitsN_len]; omega
      have c0 : wr.cell? ⟨w.heap.size, k, none⟩ = some (.bool false) := by have := hV.out.cell (by rw [hll]; exact hlt); rwa [hll] at this
      have c1 : wr.frozen? ⟨w.heap.size, k, none⟩ = false := unfrozenOf hV.out _
      clear hll
      go_wp2_with fail
      go_roundw
      case rel =>
        refine ⟨k + 1, by omega, by go_num, ?_, ?_⟩
        · have h1 := hV.out.set (by simp [bitsN_len]; omega) (bits .and .i64 ((n : Int) / 2 ^ (N - 1 - k)) 1 == 1)
          have hll : ((bitsN N n).take k).length = k := by simp [bitsN_len]; omega
          rw [hll] at h1
          rw [take_getD (z := false) (by rw [bitsN_len]; exact hlt), bitsN_get N n k hlt, bit_one _ _ (by omega)]
          exact h1
        · exact hB.out.setCell (Nat.le_refl _) _
      case measure => simp [intOf]; omega
    · obtain rfl : k = N := by omega
      have hV2 := hV.out
      rw [List.take_of_length_le (by rw [bitsN_len]; exact Nat.le_refl _)] at hV2
      have HV2 := hide hV2
      clear hV2
      go_wp2_with fail
      go_ret
      exact ⟨rfl, HV2.out, hB.out⟩
end Go.Proofs.Ytmabfnddedffoaa
/- All buildable variants, and those in which a formula holds, as the elder program has them: walks. -/
namespace Go.Proofs.Ytmabfnddedffoaa
open Go.RowKit
set_option linter.unusedVariables false
set_option linter.unusedSimpArgs false
theorem fst_neg {m : Mo} {vs : List Bool} (h : allF (vf vs) m.rules = true) : fstR vs m.rules = -1 := by
  refine idxI_none _ [] _ fun j hj => ?_
  have := (List.all_eq_true.1 h) (m.rules.getD j []) (getD_mem hj)
  simp only [this]; rfl
theorem fst_pos {m : Mo} {vs : List Bool} (h : allF (vf vs) m.rules = false) : 0 ≤ fstR vs m.rules := by
  have h1 := idxI_any (fun f => !evF1 (vf vs) f) m.rules
  have h2 : m.rules.any (fun f => !evF1 (vf vs) f) = true := by
    unfold allF at h
    rw [List.all_eq_false] at h
    obtain ⟨x, hx, hy⟩ := h
    rw [List.any_eq_true]
    exact ⟨x, hx, by simpa using hy⟩
  rw [h2, decide_eq_true_eq] at h1
  exact h1
theorem bitsN_vars {w : World} {b N n : Nat} (h : VarAt w b N (bitsN N n)) : Bols w w.heap.size (.slice (some ⟨b, 0, none⟩) N N) (bitsN N n) := by
  have h1 := VarAt.bols (w := w) (b := b) (l := bitsN N n) (by rw [bitsN_len]; exact h)
  rw [bitsN_len] at h1
  exact h1
set_option maxRecDepth 100000 in
set_option maxHeartbeats 4000000 in
theorem Variants_any (m : Mo) (ov rv : Value) (w : World) (h : MoAt w w.heap.size ov rv m) (he : m.err = 0) (hN : m.opts.length ≤ 12) :
    Calls Try.prog 152 #[.agg #[ov, rv]] w fun e w' => ∃ v, e = .returned v ∧ VStk (fun _ => False) w.heap.size w' v (allM m) ∧ Below w.heap.size w w' := by
  obtain ⟨i1, hi1, jz0, jz1, jz2⟩ := info_parts infoBools
  obtain ⟨A, cap, hov⟩ := Sl.form h.o
  obtain ⟨Ar, capr, hrv⟩ := h.r.form
  have H := hide h
  have HE := hide he
  subst hov hrv
  clear h he
  go_enter Try.func152, Try.ntmps152
  go_upto_region 1 with (fail)
  generalize hw0 : World.alloc _ _ = w0
  obtain ⟨hb0, hB0, hs0⟩ := alloc1 hw0
  clear hw0
  have HX0 : Hid (MoBox w0 w.heap.size (.slice A m.opts.length cap) (.slice Ar m.rules.length capr)) := hb0
  have HB0 := hide hB0
  clear hb0 hB0 hs0
  have hp12 : 2 ^ m.opts.length ≤ 4096 := by
    have : 2 ^ m.opts.length ≤ 2 ^ 12 := Nat.pow_le_pow_right (by omega) hN
    omega
  have hvl := varsN_all m
  have hbl : ∀ k, k < 2 ^ m.opts.length → Hid (k < 2 ^ m.opts.length) := fun k h => h
  have hwr : wrap64 ((2 : Int) ^ m.opts.length) = ((2 ^ m.opts.length : Nat) : Int) := by
    rw [show ((2 : Int) ^ m.opts.length) = ((2 ^ m.opts.length : Nat) : Int) by simp]
    generalize 2 ^ m.opts.length = p at hp12 ⊢
    exact IntWalk.wrap64_in _ (by omega)
  obtain ⟨p, hp⟩ : ∃ p, 2 ^ m.opts.length = p := ⟨_, rfl⟩
  rw [hp] at hp12 hvl hwr
  have HVL := hide hvl
  have HBL : Hid (∀ k, k < p → k < 2 ^ m.opts.length) := fun k hk => by rw [hp]; exact hk
  clear hvl hp hbl
  go_wp2_with fail
  go_loopw [3, 4] (fun sv i wr => ∃ k : Nat, k ≤ p ∧ i = .int .i64 k ∧ Hid (VStk (fun _ => False) (w.heap.size + 1) wr sv (varsN m k)) ∧ Hid (Below w.heap.size w wr) ∧ Hid (MoBox wr w.heap.size (.slice A m.opts.length cap) (.slice Ar m.rules.length capr))) (fun _ i _ => p - (intOf i).toNat)
  case atStart => exact ⟨0, Nat.zero_le _, rfl, GStk.nil _ _, HB0.out, HX0.out⟩
  case round =>
    obtain ⟨k, hk, rfl, hS, hB, hX⟩ := hrel
    have c0 := cellOf hX.out 0
    have c1 := cellOf hX.out 1
    by_cases hlt : k < p
    · have hsz := box_lt hX.out
      have hvar := variant_any m.opts.length k wr hN (HBL.out k hlt)
      have HVAR := hide hvar
      obtain ⟨f, hf⟩ : ∃ f, fstR (bitsN m.opts.length k) m.rules = f := ⟨_, rfl⟩
      have HF := hide hf
      have HSZ := hide hsz
      obtain ⟨A1, cap1, hA1, hcap1, hcap2⟩ := hS.out.form
      subst hA1
      obtain ⟨vs, hgs⟩ := hS.out
      have HGS := hide hgs
      have hvk := varsN_le m k
      clear hvar hf hsz hgs
      cases hal : allF (vf (bitsN m.opts.length k)) m.rules with
      | true =>
        have hf1 : f = -1 := HF.out.symm.trans (fst_neg hal)
        have hvs := varsN_yes hal
        have hf2 : f < 0 := by omega
        have HF1 := hide hf1
        have HVS := hide hvs
        have HVK := hide hvk
        clear hal hf1 hvs hvk
        go_wp2_with (first | (go_at_call 169; refine HVAR.out.mono ?_; rintro e w1 ⟨rfl, hv1, hB1⟩; have hbx := box_to hX.out hB1; have d0 := cellOf hbx 0; have d1 := cellOf hbx 1; have HV1 := hide hv1; have HB1 := hide hB1; have HX1 := hide hbx; clear hbx hv1 hB1 c0 c1) | (go_at_call 125; refine (rfirst_any m (bitsN m.opts.length k) _ _ _ _ ((H.out.up hB.out).up HB1.out) (bitsN_vars HV1.out) HE.out (bitsN_len _ _)).mono ?_; rw [HF.out]; rintro e w2 ⟨rfl, hB2⟩; have hbx := box_to HX1.out hB2; have HX2 := hide hbx; have HB2 := hide hB2; have HG2 := hide ((HGS.out.below HB1.out).below hB2); have HS2 : Hid (w.heap.size + 1 ≤ w2.heap.size) := (by have h1 := HSZ.out; have h2 := HB1.out.size; have h3 := hB2.size; show _ ≤ _; omega); clear hbx hB2 d0 d1) | (at_builtin; go_must (refine wpList_append_own_at _ rfl (.tmp 24) (.tmp 26) _ rfl (w.heap.size + 1) 38 i1 _ 1 24 Try.underlying164 hi1 jz0 jz1 jz2 rfl (by omega) _ _ _ rfl ((HG2.out.own).alloc _) ⟨w2.heap.size, 0, none⟩ 1 1 [.slice (some ⟨wr.heap.size, 0, none⟩) m.opts.length m.opts.length] rfl rfl (World.news_of_block (heap_alloc_new w2 _)) (by simp [Value.oneCell']) (by have h1 := HVK.out; unfold maxLen; omega) (by have h1 := HVK.out; omega) (by have h1 := HS2.out; simp; omega) ?_); intro v1 w3 hown1 hg1 _ hat1; have HOWN := hide hown1; have HG1 := hide hg1; have HAT := hide hat1; clear hown1 hg1 hat1))
        go_roundw
        case rel =>
          have hp := HG2.out.push ((bitsN_vars HV1.out).up HB2.out) (fun _ b hb => ⟨fun h => h, fun hc => by
            have h1 := HGS.out.own.lt b hc
            injection hb with hb
            simp at hb
            omega⟩) (fun _ h => h.elim) HOWN.out HG1.out HAT.out
          have hlo : ∀ i, (Value.slice A1 (varsN m k).length cap1).ownBlock = some i → w.heap.size + 1 ≤ i := fun i hi => (HGS.out.own.lt i hi).1
          refine ⟨k + 1, by omega, by go_num, ?_, ?_, ?_⟩
          · rw [HVS.out]; exact hp.1
          · exact (Below.to (Below.to hB.out HB1.out (Nat.le_refl _)) HB2.out (Nat.le_refl _)).trans (hp.2.below (by have := HS2.out; omega) (fun k hk => by have := hlo k hk; omega))
          · exact (hp.2.block _ (by have := HS2.out; omega) (fun hk => by have := hlo _ hk; omega)).trans HX2.out
        case measure => simp [intOf]; omega
      | false =>
        have hf1 := fst_pos hal
        rw [HF.out] at hf1
        have hvs := varsN_no hal
        have HVS := hide hvs
        have hf2 : ¬ f < 0 := by omega
        clear hal hf1 hvs hvk
        go_wp2_with (first | (go_at_call 169; refine HVAR.out.mono ?_; rintro e w1 ⟨rfl, hv1, hB1⟩; have hbx := box_to hX.out hB1; have d0 := cellOf hbx 0; have d1 := cellOf hbx 1; have HV1 := hide hv1; have HB1 := hide hB1; have HX1 := hide hbx; clear hbx hv1 hB1 c0 c1) | (go_at_call 125; refine (rfirst_any m (bitsN m.opts.length k) _ _ _ _ ((H.out.up hB.out).up HB1.out) (bitsN_vars HV1.out) HE.out (bitsN_len _ _)).mono ?_; rw [HF.out]; rintro e w2 ⟨rfl, hB2⟩; have hbx := box_to HX1.out hB2; have HX2 := hide hbx; have HB2 := hide hB2; have HG2 := hide ((HGS.out.below HB1.out).below hB2); clear hbx hB2 d0 d1))
        go_roundw
        case rel =>
          exact ⟨k + 1, by omega, by go_num, by rw [HVS.out]; exact ⟨vs, HG2.out⟩, Below.to (Below.to hB.out HB1.out (Nat.le_refl _)) HB2.out (Nat.le_refl _), HX2.out⟩
        case measure => simp [intOf]; omega
    · obtain rfl : k = p := by omega
      obtain ⟨A1, cap1, hA1, hcap1, hcap2⟩ := hS.out.form
      have hs := hS.out.base (B' := w.heap.size) (by omega)
      rw [HVL.out] at hs
      have HSS := hide hs
      clear hs
      subst hA1
      go_wp2_with fail
      go_ret
      exact ⟨_, rfl, HSS.out, hB.out⟩
end Go.Proofs.Ytmabfnddedffoaa
/- Those of some variants in which a formula holds, as the elder program has them: walk. -/
namespace Go.Proofs.Ytmabfnddedffoaa
open Go.RowKit
set_option linter.unusedVariables false
set_option linter.unusedSimpArgs false
set_option maxRecDepth 100000 in
set_option maxHeartbeats 4000000 in
theorem Where_any (N : Nat) (L : List (List Bool)) (f : List Int) (av fv : Value) (w : World) (h : Vars w w.heap.size av L) (hf : Ints w w.heap.size fv f) (hN : ∀ x ∈ L, x.length = N) (hv : validF N f = true) (hL : L.length ≤ 5000) :
    Calls Try.prog 153 #[av, fv] w fun e w' => ∃ v, e = .returned v ∧ VStk (fun _ => False) w.heap.size w' v (whereF L f) ∧ Below w.heap.size w w' := by
  obtain ⟨i1, hi1, jz0, jz1, jz2⟩ := info_parts infoBools
  obtain ⟨rv, ⟨A, b0, off, cap, rfl, hnc, hA, hc⟩, hrow⟩ := h
  obtain ⟨Af, capf, hfv⟩ := Sl.form hf
  have HF := hide hf
  have HC := hide hc
  have HA := hide hA
  have HR := hide hrow
  have HN := hide hN
  have HV := hide hv
  subst hfv
  clear hf hc hA hrow hN hv
  go_enter Try.func153, Try.ntmps153
  go_wp2
  go_loopw [5, 6] (fun sv i wr => ∃ k : Nat, k ≤ L.length ∧ i = .int .i64 k ∧ Hid (VStk (fun _ => False) w.heap.size wr sv (whereF (L.take k) f)) ∧ Hid (Below w.heap.size w wr)) (fun _ i _ => L.length - (intOf i).toNat)
  case atStart => exact ⟨0, Nat.zero_le _, rfl, GStk.nil _ _, Below.refl _ _⟩
  case round =>
    obtain ⟨k, hk, rfl, hS, hB⟩ := hrel
    by_cases hlt : k < L.length
    · obtain ⟨rfl, hbb⟩ : A = some ⟨b0, off, none⟩ ∧ b0 < w.heap.size := by
        rcases HA.out with h | h
        · exact h
        · omega
      obtain ⟨x, hx⟩ : ∃ x, L.getD k [] = x := ⟨_, rfl⟩
      have hrw : Bols w w.heap.size (rv k) x := by have := HR.out k hlt; rwa [hx] at this
      have hxN : x.length = N := HN.out x (by rw [← hx]; exact getD_mem hlt)
      obtain ⟨Ax, capx, hxv⟩ := Sl.form hrw
      have c0 : wr.cell? ⟨b0, off + k, none⟩ = some (.slice Ax x.length capx) := by
        have h1 := HC.out k 0 hlt (by omega)
        rw [Nat.mul_one, Nat.add_zero, hxv] at h1
        exact (hB.out.cell (p := ⟨b0, off + k, none⟩) hbb).trans h1
      rw [hxv] at hrw
      have hsz := hB.out.size
      have hbr : b0 < wr.heap.size := by omega
      have htr := True_any f N x (.slice Af f.length capf) (.slice Ax x.length capx) w.heap.size wr (HF.out.below hB.out) (Sl.below hrw hB.out) hxN HV.out
      have hwl := Nat.le_trans (whereF_le (L.take k) f) (List.length_take_le k L)
      obtain ⟨A1, cap1, hA1, hcap1, hcap2⟩ := hS.out.form
      subst hA1
      obtain ⟨vs, hgs⟩ := hS.out
      have HGS := hide hgs
      have HX := hide hx
      have HRW := hide hrw
      have HSZ := hide hsz
      have HWL := hide hwl
      have gi0 : (k : Int) < (L.length : Int) := by omega
      have gi1 : (0 : Int) ≤ (k : Int) := by omega
      clear hx hrw hxv hxN hgs hsz hwl
      cases hal : evF1 (vf x) f with
      | true =>
        have hws := whereF_yes hlt (f := f) (by rw [HX.out]; exact hal)
        rw [HX.out] at hws
        rw [hal] at htr
        have HT := hide htr
        have HWS := hide hws
        clear hal hws htr
        go_wp2_with (first | (go_at_call 127; refine HT.out.mono ?_; rintro e w2 ⟨rfl, rfl⟩) | (at_builtin; go_must (refine wpList_append_own_at _ rfl (.tmp 19) (.tmp 24) _ rfl (w.heap.size) 38 i1 _ 1 24 Try.underlying164 hi1 jz0 jz1 jz2 rfl (by omega) _ _ _ rfl ((HGS.out.own).alloc _) ⟨wr.heap.size, 0, none⟩ 1 1 [.slice Ax x.length capx] rfl rfl (World.news_of_block (heap_alloc_new wr _)) (by simp [Value.oneCell']) (by have h1 := HWL.out; unfold maxLen; omega) (by have h1 := HWL.out; omega) (by have h1 := HSZ.out; simp; omega) ?_); intro v1 w3 hown1 hg1 _ hat1; have HOWN := hide hown1; have HG1 := hide hg1; have HAT := hide hat1; clear hown1 hg1 hat1))
        go_roundw
        case rel =>
          have hrr : Bols wr wr.heap.size (.slice Ax x.length capx) x := Sl.more (Sl.below HRW.out hB.out) HSZ.out
          have hp := HGS.out.push hrr (fun hl b hb => ⟨fun h => h, fun hc => by
            have h1 := HGS.out.own.lt b hc
            obtain ⟨b', _, _, _, hlt', hob⟩ := GRow.block (enc := Value.bool) (z := false) HRW.out hl
            rw [hob] at hb
            injection hb with hb
            omega⟩) (fun _ h => h.elim) HOWN.out HG1.out HAT.out
          have hlo : ∀ i, (Value.slice A1 (whereF (L.take k) f).length cap1).ownBlock = some i → w.heap.size ≤ i := fun i hi => (HGS.out.own.lt i hi).1
          exact ⟨k + 1, by omega, by go_num, by rw [HWS.out]; exact hp.1, hB.out.trans (hp.2.below HSZ.out (fun k hk => hlo k hk))⟩
        case measure => simp [intOf]; omega
      | false =>
        have hws := whereF_no hlt (f := f) (by rw [HX.out]; exact hal)
        rw [hal] at htr
        have HT := hide htr
        have HWS := hide hws
        clear hal hws htr
        go_wp2_with (first | (go_at_call 127; refine HT.out.mono ?_; rintro e w2 ⟨rfl, rfl⟩))
        go_roundw
        case rel => exact ⟨k + 1, by omega, by go_num, by rw [HWS.out]; exact ⟨vs, HGS.out⟩, hB.out⟩
        case measure => simp [intOf]; omega
    · obtain rfl : k = L.length := by omega
      have hs := hS.out
      rw [List.take_length] at hs
      obtain ⟨A1, cap1, hA1, hcap1, hcap2⟩ := hs.form
      have HSS := hide hs
      clear hs
      subst hA1
      go_wp2_with fail
      go_ret
      exact ⟨_, rfl, HSS.out, hB.out⟩
end Go.Proofs.Ytmabfnddedffoaa
/- Count and List as the elder program has them: walks. -/
namespace Go.Proofs.Ytmabfnddedffoaa
open Go.RowKit
set_option linter.unusedVariables false
set_option linter.unusedSimpArgs false
theorem allM_le4 {m : Mo} (h : m.opts.length ≤ 12) : (allM m).length ≤ 4096 := by
  have h1 := allM_le m
  have h2 : 2 ^ m.opts.length ≤ 2 ^ 12 := Nat.pow_le_pow_right (by omega) h
  omega
/-- What Count returns. -/
def cntE (m : Mo) (f : List Int) : Nat := if m.errF [f] ≠ 0 then 0 else (whereF (allM m) f).length
end Go.Proofs.Ytmabfnddedffoaa
/- List as the elder program has it: walk. -/
namespace Go.Proofs.Ytmabfnddedffoaa
open Go.RowKit
set_option linter.unusedVariables false
set_option linter.unusedSimpArgs false
/-- What List returns. -/
def lisE (m : Mo) (f : List Int) (most : Int) : Int := if m.errF [f] ≠ 0 then m.errF [f] else if most < 1 ∨ 64 < most then 1 else 0
def lisL (m : Mo) (f : List Int) (most : Int) : List (List Bool) := if lisE m f most = 0 then (whereF (allM m) f).take most.toNat else []
/-- A list of variants and an error. -/
def ListP (L : List (List Bool)) (x : Int) (w : World) (e : Ending) (w' : World) : Prop := ∃ v, e = .returned (.tuple #[v, .int .i64 x]) ∧ Vars w' w'.heap.size v L ∧ Below w.heap.size w w'
theorem ListP.none (x : Int) {w w' : World} (h : Below w.heap.size w w') : ListP [] x w (.returned (.tuple #[.slice none 0 0, .int .i64 x])) w' := ⟨_, rfl, GRows.nil _ _, h⟩
end Go.Proofs.Ytmabfnddedffoaa
/- The model of the examples; equal variants: walks. -/
namespace Go.Proofs.Ytmabfnddedffoaa
open Go.RowKit
set_option linter.unusedVariables false
set_option linter.unusedSimpArgs false
theorem results_cell1 {P : Program} {fn : Func} {p : Tmp} {ty : TypeId} (h : fn.results = #[.cell p ty]) (tmps : Array Value) (w : World) :
    (results fn tmps).run P w = ((asAddr (tmps.getD p undef)).run P w).andThen fun a w₁ => (loadVar ty a).run P w₁ := by
  simp only [results, h]
  simp [Sem.run_bind, Result.andThen]
  try (congr; done)
theorem sl_box {w : World} {b B n t : Nat} {C : Array Value} {f : Nat → Nat → Value} (hb : w.heap[b]? = some (.cells C t (0, 0))) (hB : b < B) (h : ∀ i, i < n → C[i]? = some (f i 0)) : Sl w B 1 (.slice (some ⟨b, 0, none⟩) n n) n f :=
  ⟨_, b, 0, n, rfl, Nat.le_refl _, .inl ⟨rfl, hB⟩, fun i j hi hj => by
    obtain rfl : j = 0 := by omega
    rw [Nat.mul_one, Nat.add_zero, Nat.zero_add, cellOf hb]
    exact h i hi⟩
theorem ints_box {w : World} {b B t : Nat} {l : List Int} (hb : w.heap[b]? = some (.cells (l.map (Value.int .i64)).toArray t (0, 0))) (hB : b < B) : Ints w B (.slice (some ⟨b, 0, none⟩) l.length l.length) l :=
  sl_box hb hB fun i hi => by simp [hi]
theorem names_box {w : World} {b B t : Nat} {l : List ByteArray} (hb : w.heap[b]? = some (.cells (l.map Value.string).toArray t (0, 0))) (hB : b < B) : Names w B (.slice (some ⟨b, 0, none⟩) l.length l.length) l :=
  sl_box hb hB fun i hi => by simp [hi]
/-- The model of the examples. -/
def exM : Mo := ⟨[⟨#[116, 111, 119]⟩, ⟨#[104, 101, 97, 116]⟩, ⟨#[108, 101, 100]⟩], [[-5, 1, 2], [-3, -4, 0, 2]]⟩
end Go.Proofs.Ytmabfnddedffoaa
/- The examples of the laws: walk. -/
namespace Go.Proofs.Ytmabfnddedffoaa
open Go.RowKit
set_option linter.unusedVariables false
set_option linter.unusedSimpArgs false
end Go.Proofs.Ytmabfnddedffoaa
/- Whether two lists of variants are equal; a copy of a variant: walks. -/
namespace Go.Proofs.Ytmabfnddedffoaa
open Go.RowKit
set_option linter.unusedVariables false
set_option linter.unusedSimpArgs false
end Go.Proofs.Ytmabfnddedffoaa
/- A copy of a variant: walk. -/
namespace Go.Proofs.Ytmabfnddedffoaa
open Go.RowKit
set_option linter.unusedVariables false
set_option linter.unusedSimpArgs false
/-- A variant in its own block above block B. -/
theorem Bols.flat {w : World} {B n cap : Nat} {A : Option Addr} {l : List Bool} (h : Bols w B (.slice A n cap) l) : Reads w B 1 A l.length (l.map Value.bool) := by
  have h1 := Sl.form h
  obtain ⟨A', cap', he⟩ := h1
  injection he with e1 e2 e3
  subst e1 e2 e3
  have h2 := Sl.reads h (by omega)
  have e : Go.Proofs.Ytmabfnddedffoaa.flat l.length 1 (fun i _ => Value.bool (l.getD i false)) = l.map Value.bool := by
    apply List.ext_getElem
    · simp [flat_length]
    · intro i q1 q2
      have h3 := flat_get (n := l.length) (sz := 1) (f := fun i _ => Value.bool (l.getD i false)) (i := i) (j := 0) (by simpa using q2) (by omega)
      rw [Nat.mul_one, Nat.add_zero, List.getElem?_eq_getElem q1] at h3
      injection h3 with h3
      rw [h3]
      have q3 : i < l.length := by simpa using q2
      simp [q3]
  rwa [e] at h2
end Go.Proofs.Ytmabfnddedffoaa
/- The first variants in which a node holds: walk. -/
namespace Go.Proofs.Ytmabfnddedffoaa
open Go.RowKit
set_option linter.unusedVariables false
set_option linter.unusedSimpArgs false
/-- What list leaves. -/
def ListR (F : Fo) (B : Nat) (L' : List (List Bool)) (out : Value) (w : World) (e : Ending) (w' : World) : Prop :=
  ∃ v', e = .returned v' ∧ VStk (SF F) B w' v' L' ∧ Keeps (fun k => out.ownBlock = some k) w w' ∧ (v'.ownBlock = out.ownBlock ∨ ∀ k, v'.ownBlock = some k → w.heap.size ≤ k)
theorem ListR.same {F : Fo} {B : Nat} {L L' : List (List Bool)} {out : Value} {w w' : World} (h : VStk (SF F) B w out L) (hL : L' = L) (hb : Below w.heap.size w w') : ListR F B L' out w (.returned out) w' := by
  subst hL
  exact ⟨out, rfl, h.below hb, Keeps.of_below hb, .inl rfl⟩
/-- What has been listed when k of the two ways have been gone. -/
def lstK (ks : List Kn) (N n : Nat) (l : List Bool) (k : Nat) : List (List Bool) := if k = 0 then [] else if k = 1 then sat ks N n (l ++ [false]) else sat ks N n l
end Go.Proofs.Ytmabfnddedffoaa
/- List: walk. -/
namespace Go.Proofs.Ytmabfnddedffoaa
open Go.RowKit
set_option linter.unusedVariables false
set_option linter.unusedSimpArgs false
end Go.Proofs.Ytmabfnddedffoaa
/- How large a model is; Count in one: walks. -/
namespace Go.Proofs.Ytmabfnddedffoaa
open Go.RowKit
set_option linter.unusedVariables false
set_option linter.unusedSimpArgs false
/-- Whether a model has more than a statement looks at. -/
def largeB (m : Mo) : Bool := (decide (9 < m.opts.length) && decide (m.opts.length ≤ 40)) || (decide (12 < m.rules.length) && decide (m.rules.length ≤ 60))
end Go.Proofs.Ytmabfnddedffoaa
/- The errors of a model and a list of formulas, as the elder program has them: walk. -/
namespace Go.Proofs.Ytmabfnddedffoaa
open Go.RowKit
set_option linter.unusedVariables false
set_option linter.unusedSimpArgs false
theorem rows_get {α : Type} {enc : α → Value} {z : α} {w : World} {B b off : Nat} {A : Option Addr} {L : List (List α)} {rv : Nat → Value} {k : Nat} (hA : A = some ⟨b, off, none⟩ ∧ b < B ∨ L.length = 0)
    (hc : ∀ i j, i < L.length → j < 1 → w.cell? ⟨b, off + (i * 1 + j), none⟩ = some (rv i)) (hr : ∀ i, i < L.length → GRow enc z w B (rv i) (L.getD i [])) (hk : k < L.length) :
    A = some ⟨b, off, none⟩ ∧ b < B ∧ ∃ Ax capx, w.cell? ⟨b, off + k, none⟩ = some (.slice Ax (L.getD k []).length capx) ∧ GRow enc z w B (.slice Ax (L.getD k []).length capx) (L.getD k []) := by
  rcases hA with ⟨h1, h2⟩ | h
  · have h3 := hr k hk
    obtain ⟨Ax, capx, hx⟩ := GRow.form h3
    have h4 := hc k 0 hk (by omega)
    rw [Nat.mul_one, Nat.add_zero, hx] at h4
    rw [hx] at h3
    exact ⟨h1, h2, Ax, capx, h4, h3⟩
  · omega
/-- The error of a model and a list of formulas. -/
def frmE (m : Mo) (l : List (List Int)) : Int := if m.err ≠ 0 then m.err else if 200 < l.length then 2 else if l.all (validF m.opts.length) = false then 11 else 0
theorem frm_err {m : Mo} {l : List (List Int)} (h : m.err ≠ 0) : frmE m l = m.err := by unfold frmE; rw [if_pos h]
theorem frm_many {m : Mo} {l : List (List Int)} (h : m.err = 0) (h2 : 200 < l.length) : frmE m l = 2 := by unfold frmE; rw [if_neg (by simp [h]), if_pos h2]
theorem frm_rest {m : Mo} {l : List (List Int)} (h : m.err = 0) (h2 : l.length ≤ 200) : frmE m l = m.errF l := by unfold frmE; rw [if_neg (by simp [h]), if_neg (by omega), Mo.errF_ok h]
theorem frm_ok {m : Mo} {l : List (List Int)} (h : frmE m l = 0) : m.errF l = 0 ∧ l.length ≤ 200 := by
  unfold frmE at h
  split at h
  · rename_i h1; exact absurd h h1
  · rename_i h1
    split at h
    · omega
    · rename_i h2
      refine ⟨?_, by omega⟩
      rw [Mo.errF_ok (by omega)]
      exact h
set_option maxRecDepth 100000 in
set_option maxHeartbeats 4000000 in
theorem rcheckForms_any (m : Mo) (l : List (List Int)) (ov rv lv : Value) (w : World) (hs : SizedM m) (hl : Sized l) (h : MoAt w w.heap.size ov rv m) (hf : Forms w w.heap.size lv l) :
    Calls Try.prog 151 #[.agg #[ov, rv], lv] w fun e w' => e = .returned (.int .i64 (frmE m l)) ∧ Below w.heap.size w w' := by
  obtain ⟨A, cap, hov⟩ := Sl.form h.o
  obtain ⟨Ar, capr, hrv⟩ := h.r.form
  obtain ⟨fvs, ⟨Al, bl, offl, capl, rfl, hncl, hAl, hcl⟩, hfi⟩ := hf
  have H := hide h
  have HS := hide hs
  have HAL := hide hAl
  have HCL := hide hcl
  have HFI := hide hfi
  have HL := hide hl
  subst hov hrv
  clear h hs hAl hcl hfi hl
  go_enter Try.func151, Try.ntmps151
  go_upto_region 1 with (fail)
  generalize hw0 : World.alloc _ _ = w0
  obtain ⟨hb0, hB0, hs0⟩ := alloc1 hw0
  clear hw0
  have HX0 : Hid (MoBox w0 w.heap.size (.slice A m.opts.length cap) (.slice Ar m.rules.length capr)) := hb0
  have HB0 := hide hB0
  have c0 := cellOf hb0 0
  have c1 := cellOf hb0 1
  have hck := rCheckModel_any m (.slice A m.opts.length cap) (.slice Ar m.rules.length capr) w0 HS.out (H.out.up hB0)
  have HCK := hide hck
  clear hb0 hB0 hs0 hck
  by_cases he : m.err = 0
  · have HE := hide he
    clear he
    go_upto_region 4 with (go_at_call 74; refine HCK.out.mono ?_; rw [HE.out]; rintro e w1 ⟨rfl, hB1⟩; have HX1 := hide (box_to HX0.out hB1); have HB1 : Hid (Below w.heap.size w w1) := Below.to HB0.out hB1 (Nat.le_refl _); clear hB1 c0 c1)
    by_cases h200 : (200 : Int) < (l.length : Int)
    · have hee := frm_many HE.out (l := l) (by omega)
      have HEE := hide hee
      clear hee
      go_wp2_with fail
      go_ret
      exact ⟨ret_int HEE.out.symm, HB1.out⟩
    · have hee := frm_rest HE.out (l := l) (by omega)
      rw [Mo.errF_ok HE.out] at hee
      have HEE := hide hee
      clear hee
      go_wp2_with fail
      go_loopw [6] (fun i wr => ∃ t : Nat, t ≤ l.length ∧ i = .int .i64 t ∧ Hid (∀ j, j < t → validF m.opts.length (l.getD j []) = true) ∧ Hid (Below w1.heap.size w1 wr)) (fun i _ => l.length - (intOf i).toNat)
      case atStart => exact ⟨0, Nat.zero_le _, rfl, fun j hj => by omega, Below.refl _ _⟩
      case round =>
        obtain ⟨t, ht, rfl, hva, hBi⟩ := hrel
        have hbx := box_to HX1.out hBi.out
        have x0 := cellOf hbx 0
        have x1 := cellOf hbx 1
        have hsl2 := box_lt hbx
        have hBr := Below.to HB1.out hBi.out (Nat.le_refl _)
        have HBR := hide hBr
        clear hbx
        by_cases htl : t < l.length
        · obtain ⟨rfl, hbb, Af, capf, q0, q1⟩ := rows_get (enc := Value.int .i64) (z := 0) HAL.out HCL.out HFI.out htl
          obtain ⟨f, hfe⟩ : ∃ f, l.getD t [] = f := ⟨_, rfl⟩
          rw [hfe] at q0 q1
          have hfm : f ∈ l := by rw [← hfe]; exact getD_mem htl
          have hfs := HL.out.2 f hfm
          have c0 : wr.cell? ⟨bl, offl + t, none⟩ = some (.slice Af f.length capf) := (hBr.cell (p := ⟨bl, offl + t, none⟩) hbb).trans q0
          have lb : bl < wr.heap.size := Nat.lt_of_lt_of_le hbb hBr.size
          have hvv : ∀ W, Below wr.heap.size wr W → Calls Try.prog 135 #[.slice Af f.length capf, .int .i64 m.opts.length] W fun e w' => e = .returned (.bool (validF m.opts.length f)) ∧ W = w' :=
            fun W hW => rValid_any f m.opts.length _ w.heap.size W hfs (GRow.below (enc := Value.int .i64) (z := 0) q1 (Below.to HBR.out hW (Nat.le_refl _)))
          have it0 : (0 : Int) ≤ (t : Int) := by omega
          have it2 : (t : Int) < (l.length : Int) := by omega
          have HF := hide hfe
          cases hvf : validF m.opts.length f with
          | true =>
            rw [hvf] at hvv
            have HVV := hide hvv
            have HVF := hide hvf
            clear hfm q0 q1 hfe hvv hvf hBr
            go_wp2_with fail
            refine wp_region_held_drew (S := (fun w' => Below wr.heap.size wr w')) (by kernel_rfl) ?_ (fun hHeld => ?_)
            · try dsimp only
              exact (by repeat (first | exact Below.refl _ _ | assumption | refine Below.drew ?_ | refine Below.drewN ?_ _ | refine Below.allocT ?_ (Nat.le_refl _) _ | refine Below.setCell ?_ (by simp <;> omega) _ | refine Below.to ?_ (by assumption) (Nat.le_refl _)))
            refine zT 0 rfl ?_
            try simp only [zX]
            refine zT 1 rfl ?_
            try simp only [zX]
            refine zT 2 rfl ?_
            try simp only [zX]
            refine zT 3 rfl ?_
            try simp only [zX]
            refine zT 4 rfl ?_
            try simp only [zX]
            refine zT 5 rfl ?_
            try simp only [zX]
            refine zT 6 rfl ?_
            try simp only [zX]
            refine wpAnyH_ready (rs := [7]) (by kernel_rfl) (by simp) ?_
            refine AllReadyH.cons rfl (fun K hK => ?_) AllReadyH.nil
            go_simp
            ((go_at_call 135; refine (HVV.out _ (by repeat (first | exact Below.refl _ _ | assumption | refine Below.drew ?_ | refine Below.drewN ?_ _ | refine Below.allocT ?_ (Nat.le_refl _) _ | refine Below.setCell ?_ (by simp <;> omega) _ | refine Below.to ?_ (by assumption) (Nat.le_refl _)))).mono ?_; rintro e w1 ⟨rfl, rfl⟩))
            (try dsimp only)
            refine hK.out _ _ ?_ (fun hNext => ?_)
            · try dsimp only
              exact (by repeat (first | exact Below.refl _ _ | assumption | refine Below.drew ?_ | refine Below.drewN ?_ _ | refine Below.allocT ?_ (Nat.le_refl _) _ | refine Below.setCell ?_ (by simp <;> omega) _ | refine Below.to ?_ (by assumption) (Nat.le_refl _)))
            clear hK K hHeld
            have hHeld := hNext
            clear hNext
            (try dsimp only at hHeld)
            try simp only [zX]
            refine zT 8 rfl ?_
            try simp only [zX]
            refine wpAnyH_done (by kernel_rfl) ?_ _
            go_wp2_with fail
            go_roundw
            case rel => exact ⟨t + 1, by omega, by go_num, fun j hj => by
                rcases Nat.lt_or_ge j t with h | h
                · exact hva.out j h
                · rw [show j = t from by omega, HF.out]; exact HVF.out, Below.to hBi.out hHeld (Nat.le_refl _)⟩
            case measure => simp [intOf]; omega
          | false =>
            rw [hvf] at hvv
            have HVV := hide hvv
            have hee : frmE m l = 11 := by rw [HEE.out, if_pos (not_valid htl (by rw [hfe]; exact hvf))]
            have HE2 := hide hee
            clear hfm q0 q1 hfe hvv hvf hBr hee
            go_wp2_with fail
            refine wp_region_held_drew (S := (fun w' => Below wr.heap.size wr w')) (by kernel_rfl) ?_ (fun hHeld => ?_)
            · try dsimp only
              exact (by repeat (first | exact Below.refl _ _ | assumption | refine Below.drew ?_ | refine Below.drewN ?_ _ | refine Below.allocT ?_ (Nat.le_refl _) _ | refine Below.setCell ?_ (by simp <;> omega) _ | refine Below.to ?_ (by assumption) (Nat.le_refl _)))
            refine zT 0 rfl ?_
            try simp only [zX]
            refine zT 1 rfl ?_
            try simp only [zX]
            refine zT 2 rfl ?_
            try simp only [zX]
            refine zT 3 rfl ?_
            try simp only [zX]
            refine zT 4 rfl ?_
            try simp only [zX]
            refine zT 5 rfl ?_
            try simp only [zX]
            refine zT 6 rfl ?_
            try simp only [zX]
            refine wpAnyH_ready (rs := [7]) (by kernel_rfl) (by simp) ?_
            refine AllReadyH.cons rfl (fun K hK => ?_) AllReadyH.nil
            go_simp
            ((go_at_call 135; refine (HVV.out _ (by repeat (first | exact Below.refl _ _ | assumption | refine Below.drew ?_ | refine Below.drewN ?_ _ | refine Below.allocT ?_ (Nat.le_refl _) _ | refine Below.setCell ?_ (by simp <;> omega) _ | refine Below.to ?_ (by assumption) (Nat.le_refl _)))).mono ?_; rintro e w1 ⟨rfl, rfl⟩))
            (try dsimp only)
            refine hK.out _ _ ?_ (fun hNext => ?_)
            · try dsimp only
              exact (by repeat (first | exact Below.refl _ _ | assumption | refine Below.drew ?_ | refine Below.drewN ?_ _ | refine Below.allocT ?_ (Nat.le_refl _) _ | refine Below.setCell ?_ (by simp <;> omega) _ | refine Below.to ?_ (by assumption) (Nat.le_refl _)))
            clear hK K hHeld
            have hHeld := hNext
            clear hNext
            (try dsimp only at hHeld)
            try simp only [zX]
            refine zT 8 rfl ?_
            try simp only [zX]
            refine wpAnyH_done (by kernel_rfl) ?_ _
            go_wp2_with fail
            go_ret
            exact ⟨ret_int HE2.out.symm, Below.to HBR.out hHeld (Nat.le_refl _)⟩
        · have hee : frmE m l = 0 := by rw [HEE.out, if_neg (by rw [all_valid fun j hj => hva.out j (by omega)]; simp)]
          have HE2 := hide hee
          clear hee hBr
          go_wp2_with fail
          go_ret
          exact ⟨ret_int HE2.out.symm, HBR.out⟩
  · have hee := frm_err (l := l) he
    obtain ⟨z, hz⟩ : ∃ z, m.err = z := ⟨_, rfl⟩
    rw [hz] at he hee
    have hz1 : (z != 0) = true := by simpa using he
    have HZ := hide hz
    have HEE := hide hee
    clear he hz hee
    go_wp2_with (go_at_call 74; refine HCK.out.mono ?_; rw [HZ.out]; rintro e w1 ⟨rfl, hB1⟩)
    go_ret
    exact ⟨ret_int HEE.out.symm, Below.to HB0.out hB1 (Nat.le_refl _)⟩
end Go.Proofs.Ytmabfnddedffoaa

/- Part 12 of this claim's texts: walks and plain laws. -/
import Derived.Test.YtmabfnddedffoaaGreatRows
import Derived.Test.YtmabfnddedffoaaGreatGLS8
import Derived.Test.YtmabfnddedffoaaGreatGLS6
import Derived.Laws.ShiftsVarLaws
import Derived.Test.YtmabfnddedffoaaGreatGLS3
/- begin: walk. -/
namespace Go.Proofs.YtmabfnddedffoaaGreat
open Go.RowKit
set_option linter.unusedVariables false
set_option linter.unusedSimpArgs false
/-- What begin gives back where nothing is wrong. -/
structure BegR (m : Mo) (w w' : World) (F : Fo) (n : Nat) : Prop where
  here : FoAt w' F
  N : F.N = m.opts.length
  base : w.heap.size ≤ F.base
  below : Below w.heap.size w w'
  base2 : F.base ≤ w'.heap.size
  lt : n < F.ks.length
  ev : ∀ v, ev F.ks v n = allF v m.rules
  len : F.ks.length ≤ 2 + 6120 * 2 ^ F.N
  nj : F.nj ≤ 6120 * 2 ^ F.N
theorem BegR.room {m : Mo} {w w' : World} {F : Fo} {n : Nat} (h : BegR m w w' F n) (hN : m.opts.length ≤ 12) {k : Nat} (hk : k ≤ 200000) : Room F k := by
  have h1 := h.len
  have h2 := h.nj
  have h3 : 2 ^ F.N ≤ 2 ^ 12 := Nat.pow_le_pow_right (by omega) (by rw [h.N]; exact hN)
  have h4 := Nat.mul_le_mul (Nat.le_refl 6120) h3
  have h5 := Nat.mul_le_mul hk h3
  unfold Room
  omega
set_option maxRecDepth 100000 in
theorem begin_err (m : Mo) (l : List (List Int)) (ov rv lv : Value) (w : World) (hs : SizedM m) (hl : Sized l) (h : MoAt w w.heap.size ov rv m) (hf : Forms w w.heap.size lv l) (he : m.errF l ≠ 0) :
    Calls Tryz.prog 52 #[.agg #[ov, rv], lv] w fun e w' => e = .returned (.tuple #[.pointer none, .int .i64 0, .int .i64 (m.errF l)]) ∧ Below w.heap.size w w' := by
  obtain ⟨A, cap, hov⟩ := Sl.form h.o
  obtain ⟨Ar, capr, hrv⟩ := h.r.form
  obtain ⟨Al, capl, hlv⟩ := hf.form
  have H := hide h
  have HF := hide hf
  subst hov hrv hlv
  have hne : (m.errF l != 0) = true := by simpa using he
  obtain ⟨z, hz⟩ : ∃ z, m.errF l = z := ⟨_, rfl⟩
  rw [hz] at hne ⊢
  have HZ := hide hz
  clear h hf hz he
  go_enter Tryz.func52, Tryz.ntmps52
  go_upto_region 1 with (fail)
  generalize hw0 : World.alloc _ _ = w0
  obtain ⟨hb0, hB0, hs0⟩ := alloc1 hw0
  clear hw0
  have c0 := cellOf hb0 0
  have c1 := cellOf hb0 1
  have HB0 := hide hB0
  have hck := check_any m l (.slice A m.opts.length cap) (.slice Ar m.rules.length capr) (.slice Al l.length capl) w0 hs hl (H.out.up hB0) (HF.out.up hB0)
  rw [HZ.out] at hck
  have HCK := hide hck
  clear hb0 hB0 hs0 hck
  go_wp2_with (go_at_call 79; refine HCK.out.mono ?_; rintro e w1 ⟨rfl, hB1⟩)
  go_ret3
  exact ⟨rfl, Below.to HB0.out hB1 (Nat.le_refl _)⟩
set_option maxRecDepth 100000 in
theorem begin_ok (m : Mo) (l : List (List Int)) (ov rv lv : Value) (w : World) (hs : SizedM m) (hl : Sized l) (h : MoAt w w.heap.size ov rv m) (hf : Forms w w.heap.size lv l) (he : m.errF l = 0) (hN : m.opts.length ≤ 12) :
    Calls Tryz.prog 52 #[.agg #[ov, rv], lv] w fun e w' => ∃ F n, e = .returned (.tuple #[.pointer (some ⟨F.p, 0, none⟩), .int .i64 (n : Nat), .int .i64 0]) ∧ BegR m w w' F n := by
  obtain ⟨A, cap, hov⟩ := Sl.form h.o
  obtain ⟨Ar, capr, hrv⟩ := h.r.form
  obtain ⟨Al, capl, hlv⟩ := hf.form
  have H := hide h
  have HF := hide hf
  have hok := Mo.ok (Mo.okF he).1
  subst hov hrv hlv
  clear h hf
  go_enter Tryz.func52, Tryz.ntmps52
  go_upto_region 1 with (fail)
  generalize hw0 : World.alloc _ _ = w0
  obtain ⟨hb0, hB0, hs0⟩ := alloc1 hw0
  clear hw0
  have c0 := cellOf hb0 0
  have c1 := cellOf hb0 1
  have HX0 : Hid (MoBox w0 w.heap.size (.slice A m.opts.length cap) (.slice Ar m.rules.length capr)) := hb0
  have HB0 := hide hB0
  have hck := check_any m l (.slice A m.opts.length cap) (.slice Ar m.rules.length capr) (.slice Al l.length capl) w0 hs hl (H.out.up hB0) (HF.out.up hB0)
  rw [he] at hck
  have HCK := hide hck
  have HOK := hide hok
  clear hb0 hB0 hs0 hck he hok
  go_wp2_with (first | (go_at_call 79; refine HCK.out.mono ?_; rintro e w1 ⟨rfl, hB1⟩; have hbx := box_to HX0.out hB1; have d0 := cellOf hbx 0; have d1 := cellOf hbx 1; have HB1 : Hid (Below w.heap.size w w1) := Below.to HB0.out hB1 (Nat.le_refl _); have HX1 : Hid (MoBox w1 w.heap.size (.slice A m.opts.length cap) (.slice Ar m.rules.length capr)) := hbx; clear hbx hB1 c0 c1) | (go_at_call 80; refine (newForest_any m.opts.length (by omega) _).mono ?_; rintro e w2 ⟨rfl, hF2, hB2⟩; have hbx := box_to HX1.out hB2; have x0 := cellOf hbx 0; have x1 := cellOf hbx 1; have HB2 : Hid (Below w.heap.size w w2) := Below.to HB1.out hB2 (Nat.le_refl _); have HF2 := hide hF2; have HS2 : Hid (w1.heap.size ≤ w2.heap.size) := hB2.size; clear hbx hB2 hF2 d0 d1))
  have hp : 2 ^ m.opts.length ≤ 2 ^ 12 := Nat.pow_le_pow_right (by omega) hN
  have hrl : 102 * m.rules.length ≤ 6120 := by have := HOK.out.2.1; omega
  have hmu := Nat.mul_le_mul hrl hp
  have hmu2 : 102 * m.rules.length * 2 ^ m.opts.length ≤ 6120 * 2 ^ m.opts.length := Nat.mul_le_mul_right _ hrl
  have hs1 := HB1.out.size
  have hs2 := HS2.out
  have hal := all_any (newFo w1.heap.size m.opts.length) m.rules (.slice Ar m.rules.length capr) w2 HF2.out hs2 HOK.out.2.2.2 ((H.out.r.below HB2.out).more hs1) (by have := HOK.out.2.1; omega) ⟨by show 2 + 102 * m.rules.length * 2 ^ m.opts.length ≤ _; omega, by show 0 + 102 * m.rules.length * 2 ^ m.opts.length ≤ _; omega⟩
  have HAL : Hid (Calls Tryz.prog 81 #[.pointer (some ⟨w1.heap.size + 3, 0, none⟩), .slice Ar m.rules.length capr] w2 _) := hal
  have HMU : Hid (102 * m.rules.length * 2 ^ m.opts.length ≤ 6120 * 2 ^ m.opts.length) := hmu2
  clear hp hrl hmu hmu2 hs1 hs2 hal
  refine HAL.out.mono ?_
  rintro e w3 ⟨n, F3, rfl, r1, r2, r3⟩
  have R1 := hide r1
  have R3 := hide r3
  clear r1 r3
  go_wp2_with fail
  go_ret3
  refine ⟨F3, n, ?_, ?_⟩
  · rw [R1.out.st.p]; rfl
  · have hb3 := R1.out.st.below HF2.out HS2.out
    refine ⟨R1.out.st.here, R1.out.st.N, by rw [R1.out.st.ba]; exact HB1.out.size, ?_, ?_, r2, R3.out, ?_, ?_⟩
    · exact ⟨hb3.os.trans HB2.out.os, hb3.tape.trans HB2.out.tape, hb3.output.trans HB2.out.output, Nat.le_trans HB2.out.size hb3.size, fun k hk => (hb3.block k (Nat.lt_of_lt_of_le hk HB1.out.size)).trans (HB2.out.block k hk)⟩
    · rw [R1.out.st.ba]; exact Nat.le_trans HS2.out hb3.size
    · have h1 := R1.out.len
      have h2 := HMU.out
      rw [R1.out.st.N]
      show _ ≤ 2 + 6120 * 2 ^ m.opts.length
      replace h1 : F3.ks.length ≤ 2 + 102 * m.rules.length * 2 ^ m.opts.length := h1
      omega
    · have h1 := R1.out.nj
      have h2 := HMU.out
      rw [R1.out.st.N]
      show _ ≤ 6120 * 2 ^ m.opts.length
      replace h1 : F3.nj ≤ 0 + 102 * m.rules.length * 2 ^ m.opts.length := h1
      omega
end Go.Proofs.YtmabfnddedffoaaGreat
/- How many variants a node holds in: walk. -/
namespace Go.Proofs.YtmabfnddedffoaaGreat
open Go.RowKit
open Go.Maps (Keyed)
set_option linter.unusedVariables false
set_option linter.unusedSimpArgs false
def enN (n : Nat) : Value := .int .i64 n
theorem enN_inj (a b : Nat) (h : enN a = enN b) : a = b := by
  unfold enN at h
  injection h with _ h
  omega
theorem enKey {n : Nat} (h : I63 n) : ∃ l, keyOf Tryz.prog 3 (enN n) = some l := ⟨_, Maps.keyOf_int_mk Tryz.underlying3 (wf63 h)⟩
theorem inLaw : Keyed Tryz.prog 3 := Maps.int_keyed Tryz.underlying3
/-- What the map of counts holds is right. -/
def CntOk (ks : List Kn) (N : Nat) (m : Nat → Option Int) : Prop := ∀ n x, m n = some x → n < ks.length ∧ x = (cntK ks N n (topK ks n) : Nat)
structure CntR (F : Fo) (kb d : Nat) (w : World) (cnt : Nat) (w' : World) (m' : Nat → Option Int) (cnt' : Nat) : Prop where
  keep : Keeps (fun k => k = kb) w w'
  map : MapIs Tryz.prog w' 3 3 kb cnt' enN m'
  ok : CntOk F.ks F.N m'
  cnt : cnt' + 1 ≤ cnt + 2 ^ (d + 1)

theorem shl_cnt {N : Nat} {ks : List Kn} (hw : WF N ks) (hN : N ≤ 20) {n o k : Nat} (hn : n < ks.length) (hk : topK ks n = o + k) : wrap64 ((cntK ks N n (topK ks n) : Int) * 2 ^ min k 64) = (cntK ks N n o : Nat) ∧ wrap64 ((cntK ks N n (topK ks n) : Int) * 2 ^ k) = (cntK ks N n o : Nat) := by
  have h1 := cntK_lift hw hn k o hk.symm
  have h2 := cntK_le ks N n o
  have h3 := hw.top_le n hn
  have h4 : (2 : Nat) ^ (N - o) ≤ 2 ^ 20 := Nat.pow_le_pow_right (by omega) (by omega)
  have h5 : min k 64 = k := by omega
  rw [h5, h1]
  refine (fun h => ⟨h, h⟩) ?_
  have h6 : ((cntK ks N n (topK ks n) * 2 ^ k : Nat) : Int) = (cntK ks N n (topK ks n) : Int) * 2 ^ k := by simp
  rw [← h6, IntWalk.wrap64_in _ (by omega)]
set_option maxRecDepth 100000 in
theorem countZero_any (F : Fo) (kb o : Nat) (w : World) :
    Calls Tryz.prog 53 #[.pointer (some ⟨F.p, 0, none⟩), .int .i64 0, .int .i64 o, .map (some kb)] w
      fun e w' => e = .returned (.int .i64 0) ∧ w = w' := by
  go_enter Tryz.func53, Tryz.ntmps53
  go_wp2_with fail
  go_ret
  exact ⟨rfl, rfl⟩
set_option maxRecDepth 100000 in
set_option maxHeartbeats 2000000 in
theorem countHit_any (F : Fo) (kb : Nat) (hN : F.N ≤ 20) (d n o x : Nat) (w : World) (m : Nat → Option Int) (cnt : Nat) (h : FoAt w F) (hn : n < F.ks.length) (h0 : n ≠ 0) (ho : o ≤ topK F.ks n) (hm : MapIs Tryz.prog w 3 3 kb cnt enN m) (hx : m n = some ((cntK F.ks F.N n (topK F.ks n) : Nat) : Int)) :
    Calls Tryz.prog 53 #[.pointer (some ⟨F.p, 0, none⟩), .int .i64 n, .int .i64 o, .map (some kb)] w
      fun e w' => e = .returned (.int .i64 (cntK F.ks F.N n o : Nat)) ∧ w = w' := by
  have h01 : ((n : Int) == 0) = false := by simp; omega
  obtain ⟨kl, hkl⟩ := enKey (n := n) (by have := h.small; unfold I63; omega)
  have hlk : (Instr.lookup 98 (.map (some kb)) (.int .i64 n) true).run Tryz.prog w = .ok (.tuple #[.int .i64 ((m n).getD 0), .bool (m n).isSome]) w := hm.look inLaw Tryz.underlying98 Tryz.underlying3 (zInt w) hkl
  have hsm := h.small
  have hi0 : (0 : Int) ≤ (n : Int) := by omega
  have hi1 : (n : Int) < (F.ks.length : Int) := by omega
  have c1 := h.cellS
  obtain ⟨k0, k1, k2⟩ := h.knot hn
  rw [hx] at hlk
  simp only [Option.getD_some, Option.isSome_some] at hlk
  obtain ⟨k, hk⟩ : ∃ k, topK F.ks n = o + k := ⟨topK F.ks n - o, by omega⟩
  have hsub : (topK F.ks n : Int) - (o : Int) = (k : Int) := by omega
  have hk0 : (0 : Int) ≤ (k : Int) := by omega
  have hk20 : (k : Int) ≤ 1000 := by have := h.wf.top_le n hn; omega
  have HF := hide (shl_cnt h.wf hN hn hk)
  clear h hm hx hkl hk h0 hsm
  go_enter Tryz.func53, Tryz.ntmps53
  go_wp2_with fail
  go_ret
  exact ⟨ret_int HF.out.1, rfl⟩
set_option maxRecDepth 100000 in
set_option maxHeartbeats 2000000 in
theorem countOne_any (F : Fo) (kb : Nat) (hnb : ¬ SF F kb) (hN : F.N ≤ 20) (d o : Nat) (w : World) (m : Nat → Option Int) (cnt : Nat) (h : FoAt w F) (ho : o ≤ F.N) (hm : MapIs Tryz.prog w 3 3 kb cnt enN m) (hok : CntOk F.ks F.N m) (hc : cnt + 2 ^ (d + 1) ≤ 1073741824) (hx : m 1 = none) :
    Calls Tryz.prog 53 #[.pointer (some ⟨F.p, 0, none⟩), .int .i64 1, .int .i64 o, .map (some kb)] w
      fun e w' => ∃ m' cnt', e = .returned (.int .i64 (cntK F.ks F.N 1 o : Nat)) ∧ CntR F kb d w cnt w' m' cnt' := by
  have h2 := h.wf.two
  have ht1 := h.wf.top1
  obtain ⟨kl, hkl⟩ := enKey (n := 1) (by unfold I63; omega)
  have hlk : (Instr.lookup 98 (.map (some kb)) (.int .i64 1) true).run Tryz.prog w = .ok (.tuple #[.int .i64 ((m 1).getD 0), .bool (m 1).isSome]) w := hm.look inLaw Tryz.underlying98 Tryz.underlying3 (zInt w) hkl
  have hsm := h.small
  have hi1 : (1 : Int) < (F.ks.length : Int) := by omega
  have hi2 : 1 < F.ks.length := by omega
  have c1 := h.cellS
  obtain ⟨k0, k1, k2⟩ := h.knot (n := 1) (by omega)
  simp only [Nat.one_mul] at k0 k1 k2
  rw [hx] at hlk
  simp only [Option.getD_none, Option.isSome_none] at hlk
  obtain ⟨k, hk⟩ : ∃ k, topK F.ks 1 = o + k := ⟨topK F.ks 1 - o, by omega⟩
  have hsub : (topK F.ks 1 : Int) - (o : Int) = (k : Int) := by omega
  have hk0 : (0 : Int) ≤ (k : Int) := by omega
  have hk20 : (k : Int) ≤ 1000 := by omega
  have hone : cntK F.ks F.N 1 (topK F.ks 1) = 1 := by rw [ht1]; exact cntK_one
  have hfin := shl_cnt h.wf hN (show 1 < F.ks.length by omega) hk
  have hput := hone
  rw [hone] at hfin
  have HF := hide hfin
  have HM := hide hm
  have HOK := hide hok
  have HONE := hide hone
  have hp := pow_pos2 d
  have HC : Hid (cnt + 1 + 1 ≤ cnt + 2 ^ (d + 1)) := by show cnt + 1 + 1 ≤ _; rw [Nat.pow_succ]; omega
  have HKL := hide hkl
  have hcn : cnt < maxLen := by unfold maxLen; omega
  clear h hm hx hkl hk hsm hok hone hput hfin ht1
  go_enter Tryz.func53, Tryz.ntmps53
  go_wp2_with (at_mapUpdate; go_must (refine wpList_put _ rfl _ _ _ 98 rfl HM.out inLaw Tryz.underlying98 Tryz.underlying3 enN_inj hcn 1 ⟨_, HKL.out⟩ 1 (by decide) rfl rfl rfl ?_); intro w9 hm9 hg9; have HM9 := hide hm9; have HG9 := hide hg9; clear hm9 hg9)
  go_ret
  have hfo : wrap64 (2 ^ min k 64) = (cntK F.ks F.N 1 o : Nat) := by
    have h1 := HF.out.1
    simpa using h1
  exact ⟨_, _, ret_int hfo, ⟨Keeps.of_grown HG9.out (fun k hk => by injection hk with hk; exact hk.symm), HM9.out, fun n x hx => by
    unfold putM at hx
    split at hx
    · rename_i e
      injection hx with hx
      rw [e, HONE.out]
      exact ⟨hi2, hx.symm⟩
    · exact HOK.out n x hx, HC.out⟩⟩

set_option maxRecDepth 100000 in
set_option maxHeartbeats 4000000 in
theorem count_any (F : Fo) (kb : Nat) (hnb : ¬ SF F kb) (hN : F.N ≤ 20) : ∀ (d n o : Nat) (w : World) (m : Nat → Option Int) (cnt : Nat), FoAt w F → n < F.ks.length → F.N - topK F.ks n ≤ d → o ≤ topK F.ks n → MapIs Tryz.prog w 3 3 kb cnt enN m → CntOk F.ks F.N m → cnt + 2 ^ (d + 1) ≤ 1073741824 →
    Calls Tryz.prog 53 #[.pointer (some ⟨F.p, 0, none⟩), .int .i64 n, .int .i64 o, .map (some kb)] w
      fun e w' => ∃ m' cnt', e = .returned (.int .i64 (cntK F.ks F.N n o : Nat)) ∧ CntR F kb d w cnt w' m' cnt' := by
  intro d
  induction d with
  | zero =>
    intro n o w m cnt h hn hd ho hm hok hc
    by_cases h0 : n = 0
    · subst h0
      refine (countZero_any F kb o w).mono ?_
      rintro e w' ⟨rfl, rfl⟩
      exact ⟨m, cnt, by rw [cntK_zero]; rfl, ⟨Keeps.refl _ _, hm, hok, by omega⟩⟩
    · have h1 : n = 1 := by
        rcases Nat.lt_or_ge n 2 with h2 | h2
        · omega
        · have := h.wf.opt n h2 hn; omega
      subst h1
      rw [h.wf.top1] at ho
      cases hx : m 1 with
      | none => exact countOne_any F kb hnb hN 0 o w m cnt h ho hm hok hc hx
      | some x =>
        have h2 := (hok 1 x hx).2
        refine (countHit_any F kb hN 0 1 o 0 w m cnt h hn h0 (by rw [h.wf.top1]; exact ho) hm (by rw [hx, h2])).mono ?_
        rintro e w' ⟨rfl, rfl⟩
        exact ⟨m, cnt, rfl, ⟨Keeps.refl _ _, hm, hok, by omega⟩⟩
  | succ d ih =>
    intro n o w m cnt h hn hd ho hm hok hc
    by_cases h0 : n = 0
    · subst h0
      refine (countZero_any F kb o w).mono ?_
      rintro e w' ⟨rfl, rfl⟩
      have := pow_pos2 (d + 1 + 1)
      exact ⟨m, cnt, by rw [cntK_zero]; rfl, ⟨Keeps.refl _ _, hm, hok, by omega⟩⟩
    cases hx : m n with
    | some x =>
      have h2 := (hok n x hx).2
      refine (countHit_any F kb hN 0 n o 0 w m cnt h hn h0 ho hm (by rw [hx, h2])).mono ?_
      rintro e w' ⟨rfl, rfl⟩
      have := pow_pos2 (d + 1 + 1)
      exact ⟨m, cnt, rfl, ⟨Keeps.refl _ _, hm, hok, by omega⟩⟩
    | none =>
    by_cases h1 : n = 1
    · subst h1
      rw [h.wf.top1] at ho
      exact countOne_any F kb hnb hN (d + 1) o w m cnt h ho hm hok hc hx
    have h01 : ((n : Int) == 0) = false := by simp; omega
    have h02 : ((n : Int) != 1) = true := by simp; omega
    have hn2 : 2 ≤ n := by omega
    obtain ⟨kl, hkl⟩ := enKey (n := n) (by have := h.small; unfold I63; omega)
    have hlk : (Instr.lookup 98 (.map (some kb)) (.int .i64 n) true).run Tryz.prog w = .ok (.tuple #[.int .i64 ((m n).getD 0), .bool (m n).isSome]) w := hm.look inLaw Tryz.underlying98 Tryz.underlying3 (zInt w) hkl
    rw [hx] at hlk
    simp only [Option.getD_none, Option.isSome_none] at hlk
    have hsm := h.small
    have hi0 : (0 : Int) ≤ (n : Int) := by omega
    have hi1 : (n : Int) < (F.ks.length : Int) := by omega
    have c1 := h.cellS
    obtain ⟨k0, k1, k2⟩ := h.knot hn
    obtain ⟨l0, l1, l2, l3⟩ := h.lts
    have ll := h.wf.low n hn2 hn
    have lh := h.wf.high n hn2 hn
    have tl := h.wf.topl n hn2 hn
    have th := h.wf.toph n hn2 hn
    have tN := h.wf.opt n hn2 hn
    have hnode := cntK_node h.wf hn2 hn
    have b1 := cntK_le F.ks F.N (lowK F.ks n) (topK F.ks n + 1)
    have b2 := cntK_le F.ks F.N (highK F.ks n) (topK F.ks n + 1)
    have hp20 : (2 : Nat) ^ (F.N - (topK F.ks n + 1)) ≤ 2 ^ 20 := Nat.pow_le_pow_right (by omega) (by omega)
    obtain ⟨lo, hlo⟩ : ∃ lo, lowK F.ks n = lo := ⟨_, rfl⟩
    obtain ⟨hi, hhi⟩ : ∃ hi, highK F.ks n = hi := ⟨_, rfl⟩
    obtain ⟨t, ht⟩ : ∃ t, topK F.ks n = t := ⟨_, rfl⟩
    rw [hlo] at ll tl k1 hnode b1
    rw [hhi] at lh th k2 hnode b2
    obtain ⟨k, hk⟩ : ∃ k, topK F.ks n = o + k := ⟨topK F.ks n - o, by omega⟩
    have hfin := shl_cnt h.wf hN hn hk
    rw [ht] at k0 tl th tN hnode b1 b2 hd ho hk hp20 hfin
    have hdl : F.N - topK F.ks lo ≤ d := by omega
    have hdh : F.N - topK F.ks hi ≤ d := by omega
    obtain ⟨x, hxe⟩ : ∃ x, cntK F.ks F.N lo (t + 1) = x := ⟨_, rfl⟩
    obtain ⟨y, hye⟩ : ∃ y, cntK F.ks F.N hi (t + 1) = y := ⟨_, rfl⟩
    obtain ⟨z, hze⟩ : ∃ z, cntK F.ks F.N n t = z := ⟨_, rfl⟩
    rw [hxe] at b1
    rw [hye] at b2
    rw [hxe, hye, hze] at hnode
    rw [hze] at hfin
    have hsum : IntKind.i64.wrap ((x : Int) + (y : Int)) = (z : Int) := by rw [IntWalk.i64_in _ (by omega)]; omega
    have hz63 : (Lit.int .i64 (z : Int)).wf = true := wf63 (by unfold I63; omega)
    have hsub : (t : Int) - (o : Int) = (k : Int) := by omega
    have hk0 : (0 : Int) ≤ (k : Int) := by omega
    have hk20 : (k : Int) ≤ 1000 := by omega
    have ht1 : IntKind.i64.wrap ((t : Int) + 1) = (t : Int) + 1 := IntWalk.i64_in _ (by omega)
    have hcast : ((t + 1 : Nat) : Int) = (t : Int) + 1 := by omega
    have hpw : 2 ^ (d + 1 + 1) = 2 ^ (d + 1) + 2 ^ (d + 1) := by rw [Nat.pow_succ]; omega
    have hpp := pow_pos2 (d + 1)
    have hih1 := ih lo (t + 1) w.drew m cnt (h.same fun _ _ => rfl) (by omega) hdl (by omega) (hm.same rfl) hok (by omega)
    rw [hcast, hxe] at hih1
    have HIH2 : Hid (∀ (w1 : World) (m1 : Nat → Option Int) (cnt1 : Nat), CntR F kb d w.drew cnt w1 m1 cnt1 →
        Calls Tryz.prog 53 #[.pointer (some ⟨F.p, 0, none⟩), .int .i64 hi, .int .i64 ((t : Int) + 1), .map (some kb)] w1
          fun e w' => ∃ m' cnt', e = .returned (.int .i64 (y : Nat)) ∧ CntR F kb d w1 cnt1 w' m' cnt') := by
      intro w1 m1 cnt1 r
      have h1 := ih hi (t + 1) w1 m1 cnt1 ((h.same (w' := w.drew) fun _ _ => rfl).keeps r.keep (fun k hk e => hnb (e ▸ hk))) (by omega) hdh (by omega) r.map r.ok (by have := r.cnt; have := pow_pos2 (d + 1); omega)
      rw [hcast, hye] at h1
      exact h1
    have m1 : ¬ F.p = kb := fun e => hnb (.inl e.symm)
    have m2 : ¬ F.kb = kb := fun e => hnb (.inr (.inr (.inr e.symm)))
    have HIH1 := hide hih1
    have HF := hide hfin
    have HOK := hide hok
    have HKL := hide hkl
    have HT := hide (And.intro ht hze)
    have HC : Hid (cnt + 2 ^ (d + 1 + 1) ≤ 1073741824 ∧ 2 ^ (d + 1 + 1) = 2 ^ (d + 1) + 2 ^ (d + 1)) := ⟨hc, hpw⟩
    clear hih1 hfin hok hkl ht hze hm h hxe hye ih hlo hhi hnode hx hcast hpw hc hk
    go_enter Tryz.func53, Tryz.ntmps53
    go_upto_region 8 with (fail)
    refine wp_region_held_drew (S := (fun w' => Keeps (fun k => k = kb) w w')) (by kernel_rfl) ?_ (fun hHeld => ?_)
    · try dsimp only
      (repeat (first | (with_reducible exact Keeps.refl _ _) | exact hKeep.out | exact hKeepS.out _ | assumption | (with_reducible refine Keeps.drew ?_) | (with_reducible refine Keeps.drewN ?_ _) | (with_reducible refine Keeps.alloc ?_ _) | (with_reducible refine Keeps.setCell ?_ (.inl (by first | exact .inl rfl | exact .inr rfl)) _)))
    refine wpAnyH_take (i := 0) (v := ?v1_1) rfl (by kernel_rfl) (by kernel_rfl) (by kernel_rfl) (fun _ _ _ h => h) (Or.inl ⟨by rfl, ?y1_1⟩) (by assumption) ?r1_1
    case' y1_1 => (intro w hSw; (try dsimp only at hSw); (try have hlS := HLK.out _ hSw); have hcS := kcell1 hSw; clear hSw; go_simp; try with_reducible rfl)
    try simp only [zX]
    refine wpAnyH_take (i := 1) (v := ?v1_2) rfl (by kernel_rfl) (by kernel_rfl) (by kernel_rfl) (fun _ _ _ h => h) (Or.inl ⟨by rfl, ?y1_2⟩) (by assumption) ?r1_2
    case' y1_2 => (intro w hSw; (try dsimp only at hSw); (try have hlS := HLK.out _ hSw); have hcS := kcell1 hSw; clear hSw; go_simp; try with_reducible rfl)
    try simp only [zX]
    refine wpAnyH_take (i := 2) (v := ?v1_3) rfl (by kernel_rfl) (by kernel_rfl) (by kernel_rfl) (fun _ _ _ h => h) (Or.inl ⟨by rfl, ?y1_3⟩) (by assumption) ?r1_3
    case' y1_3 => (intro w hSw; (try dsimp only at hSw); (try have hlS := HLK.out _ hSw); have hcS := kcell1 hSw; clear hSw; go_simp; try with_reducible rfl)
    try simp only [zX]
    refine wpAnyH_take (i := 3) (v := ?v1_4) rfl (by kernel_rfl) (by kernel_rfl) (by kernel_rfl) (fun _ _ _ h => h) (Or.inl ⟨by rfl, ?y1_4⟩) (by assumption) ?r1_4
    case' y1_4 => (intro w hSw; (try dsimp only at hSw); (try have hlS := HLK.out _ hSw); have hcS := kcell1 hSw; clear hSw; go_simp; try with_reducible rfl)
    try simp only [zX]
    refine wpAnyH_take (i := 4) (v := ?v1_5) rfl (by kernel_rfl) (by kernel_rfl) (by kernel_rfl) (fun _ _ _ h => h) (Or.inl ⟨by rfl, ?y1_5⟩) (by assumption) ?r1_5
    case' y1_5 => (intro w hSw; (try dsimp only at hSw); (try have hlS := HLK.out _ hSw); have hcS := kcell1 hSw; clear hSw; go_simp; try with_reducible rfl)
    try simp only [zX]
    refine wpAnyH_take (i := 5) (v := ?v1_6) rfl (by kernel_rfl) (by kernel_rfl) (by kernel_rfl) (fun _ _ _ h => h) (Or.inl ⟨by rfl, ?y1_6⟩) (by assumption) ?r1_6
    case' y1_6 => (intro w hSw; (try dsimp only at hSw); (try have hlS := HLK.out _ hSw); have hcS := kcell1 hSw; clear hSw; go_simp; try with_reducible rfl)
    try simp only [zX]
    refine wpAnyH_take (i := 6) (v := ?v1_7) rfl (by kernel_rfl) (by kernel_rfl) (by kernel_rfl) (fun _ _ _ h => h) (Or.inl ⟨by rfl, ?y1_7⟩) (by assumption) ?r1_7
    case' y1_7 => (intro w hSw; (try dsimp only at hSw); (try have hlS := HLK.out _ hSw); have hcS := kcell1 hSw; clear hSw; go_simp; try with_reducible rfl)
    try simp only [zX]
    refine wpAnyH_take (i := 7) (v := ?v1_8) rfl (by kernel_rfl) (by kernel_rfl) (by kernel_rfl) (fun _ _ _ h => h) (Or.inl ⟨by rfl, ?y1_8⟩) (by assumption) ?r1_8
    case' y1_8 => (intro w hSw; (try dsimp only at hSw); (try have hlS := HLK.out _ hSw); have hcS := kcell1 hSw; clear hSw; go_simp; try with_reducible rfl)
    try simp only [zX]
    refine wpAnyH_take (i := 8) (v := ?v1_9) rfl (by kernel_rfl) (by kernel_rfl) (by kernel_rfl) (fun _ _ _ h => h) (Or.inl ⟨by rfl, ?y1_9⟩) (by assumption) ?r1_9
    case' y1_9 => (intro w hSw; (try dsimp only at hSw); (try have hlS := HLK.out _ hSw); have hcS := kcell1 hSw; clear hSw; go_simp; try with_reducible rfl)
    try simp only [zX]
    refine wpAnyH_take (i := 9) (v := ?v1_10) rfl (by kernel_rfl) (by kernel_rfl) (by kernel_rfl) (fun _ _ _ h => h) (Or.inl ⟨by rfl, ?y1_10⟩) (by assumption) ?r1_10
    case' y1_10 => (intro w hSw; (try dsimp only at hSw); (try have hlS := HLK.out _ hSw); have hcS := kcell1 hSw; clear hSw; go_simp; try with_reducible rfl)
    try simp only [zX]
    refine wpAnyH_take (i := 10) (v := ?v1_11) rfl (by kernel_rfl) (by kernel_rfl) (by kernel_rfl) (fun _ _ _ h => h) (Or.inl ⟨by rfl, ?y1_11⟩) (by assumption) ?r1_11
    case' y1_11 => (intro w hSw; (try dsimp only at hSw); (try have hlS := HLK.out _ hSw); have hcS := kcell1 hSw; clear hSw; go_simp; try with_reducible rfl)
    try simp only [zX]
    refine wpAnyH_take (i := 11) (v := ?v1_12) rfl (by kernel_rfl) (by kernel_rfl) (by kernel_rfl) (fun _ _ _ h => h) (Or.inl ⟨by rfl, ?y1_12⟩) (by assumption) ?r1_12
    case' y1_12 => (intro w hSw; (try dsimp only at hSw); (try have hlS := HLK.out _ hSw); have hcS := kcell1 hSw; clear hSw; go_simp; try with_reducible rfl)
    try simp only [zX]
    refine wpAnyH_take (i := 13) (v := ?v1_13) rfl (by kernel_rfl) (by kernel_rfl) (by kernel_rfl) (fun _ _ _ h => h) (Or.inl ⟨by rfl, ?y1_13⟩) (by assumption) ?r1_13
    case' y1_13 => (intro w hSw; (try dsimp only at hSw); (try have hlS := HLK.out _ hSw); have hcS := kcell1 hSw; clear hSw; go_simp; try with_reducible rfl)
    try simp only [zX]
    refine wpAnyH_take (i := 14) (v := ?v1_14) rfl (by kernel_rfl) (by kernel_rfl) (by kernel_rfl) (fun _ _ _ h => h) (Or.inl ⟨by rfl, ?y1_14⟩) (by assumption) ?r1_14
    case' y1_14 => (intro w hSw; (try dsimp only at hSw); (try have hlS := HLK.out _ hSw); have hcS := kcell1 hSw; clear hSw; go_simp; try with_reducible rfl)
    try simp only [zX]
    refine wpAnyH_take (i := 15) (v := ?v1_15) rfl (by kernel_rfl) (by kernel_rfl) (by kernel_rfl) (fun _ _ _ h => h) (Or.inl ⟨by rfl, ?y1_15⟩) (by assumption) ?r1_15
    case' y1_15 => (intro w hSw; (try dsimp only at hSw); (try have hlS := HLK.out _ hSw); have hcS := kcell1 hSw; clear hSw; go_simp; try with_reducible rfl)
    try simp only [zX]
    refine wpAnyH_take (i := 16) (v := ?v1_16) rfl (by kernel_rfl) (by kernel_rfl) (by kernel_rfl) (fun _ _ _ h => h) (Or.inl ⟨by rfl, ?y1_16⟩) (by assumption) ?r1_16
    case' y1_16 => (intro w hSw; (try dsimp only at hSw); (try have hlS := HLK.out _ hSw); have hcS := kcell1 hSw; clear hSw; go_simp; try with_reducible rfl)
    try simp only [zX]
    refine wpAnyH_take (i := 17) (v := ?v1_17) rfl (by kernel_rfl) (by kernel_rfl) (by kernel_rfl) (fun _ _ _ h => h) (Or.inl ⟨by rfl, ?y1_17⟩) (by assumption) ?r1_17
    case' y1_17 => (intro w hSw; (try dsimp only at hSw); (try have hlS := HLK.out _ hSw); have hcS := kcell1 hSw; clear hSw; go_simp; try with_reducible rfl)
    try simp only [zX]
    refine wpAnyH_take (i := 18) (v := ?v1_18) rfl (by kernel_rfl) (by kernel_rfl) (by kernel_rfl) (fun _ _ _ h => h) (Or.inl ⟨by rfl, ?y1_18⟩) (by assumption) ?r1_18
    case' y1_18 => (intro w hSw; (try dsimp only at hSw); (try have hlS := HLK.out _ hSw); have hcS := kcell1 hSw; clear hSw; go_simp; try with_reducible rfl)
    try simp only [zX]
    refine wpAnyH_take (i := 19) (v := ?v1_19) rfl (by kernel_rfl) (by kernel_rfl) (by kernel_rfl) (fun _ _ _ h => h) (Or.inl ⟨by rfl, ?y1_19⟩) (by assumption) ?r1_19
    case' y1_19 => (intro w hSw; (try dsimp only at hSw); (try have hlS := HLK.out _ hSw); have hcS := kcell1 hSw; clear hSw; go_simp; try with_reducible rfl)
    try simp only [zX]
    refine wpAnyH_take (i := 20) (v := ?v1_20) rfl (by kernel_rfl) (by kernel_rfl) (by kernel_rfl) (fun _ _ _ h => h) (Or.inl ⟨by rfl, ?y1_20⟩) (by assumption) ?r1_20
    case' y1_20 => (intro w hSw; (try dsimp only at hSw); (try have hlS := HLK.out _ hSw); have hcS := kcell1 hSw; clear hSw; go_simp; try with_reducible rfl)
    try simp only [zX]
    refine wpAnyH_take (i := 21) (v := ?v1_21) rfl (by kernel_rfl) (by kernel_rfl) (by kernel_rfl) (fun _ _ _ h => h) (Or.inl ⟨by rfl, ?y1_21⟩) (by assumption) ?r1_21
    case' y1_21 => (intro w hSw; (try dsimp only at hSw); (try have hlS := HLK.out _ hSw); have hcS := kcell1 hSw; clear hSw; go_simp; try with_reducible rfl)
    try simp only [zX]
    refine wpAnyH_take (i := 22) (v := ?v1_22) rfl (by kernel_rfl) (by kernel_rfl) (by kernel_rfl) (fun _ _ _ h => h) (Or.inl ⟨by rfl, ?y1_22⟩) (by assumption) ?r1_22
    case' y1_22 => (intro w hSw; (try dsimp only at hSw); (try have hlS := HLK.out _ hSw); have hcS := kcell1 hSw; clear hSw; go_simp; try with_reducible rfl)
    try simp only [zX]
    refine wpAnyH_take (i := 23) (v := ?v1_23) rfl (by kernel_rfl) (by kernel_rfl) (by kernel_rfl) (fun _ _ _ h => h) (Or.inl ⟨by rfl, ?y1_23⟩) (by assumption) ?r1_23
    case' y1_23 => (intro w hSw; (try dsimp only at hSw); (try have hlS := HLK.out _ hSw); have hcS := kcell1 hSw; clear hSw; go_simp; try with_reducible rfl)
    try simp only [zX]
    refine wpAnyH_take (i := 24) (v := ?v1_24) rfl (by kernel_rfl) (by kernel_rfl) (by kernel_rfl) (fun _ _ _ h => h) (Or.inl ⟨by rfl, ?y1_24⟩) (by assumption) ?r1_24
    case' y1_24 => (intro w hSw; (try dsimp only at hSw); (try have hlS := HLK.out _ hSw); have hcS := kcell1 hSw; clear hSw; go_simp; try with_reducible rfl)
    try simp only [zX]
    refine wpAnyH_ready (rs := [12]) (by kernel_rfl) (by simp) ?_
    refine (AllReadyH.cons rfl (fun K hK => ?_) AllReadyH.nil)
    go_simp
    (first | ((with_reducible refine HIH1.out.mono ?_); rintro e w1 ⟨m1', cnt1, rfl, r1⟩; have R1 := hide r1; have hKeep : Hid (Keeps (fun k => k = kb) w w1) := ⟨r1.keep.os, r1.keep.tape, r1.keep.output, r1.keep.size, r1.keep.block⟩; clear r1) | ((with_reducible refine (HIH2.out _ _ _ R1.out).mono ?_); rintro e w2 ⟨m2', cnt2, rfl, r2⟩; have R2 := hide r2; have hKeep2 : Hid (Keeps (fun k => k = kb) w w2) := hKeep.out.trans r2.keep (fun _ _ h => h); clear hKeep; have hKeep := hKeep2; clear r2 hKeep2))
    (try dsimp only)
    refine hK.out _ _ ?_ (fun hNext => ?_)
    · try dsimp only
      (repeat (first | (with_reducible exact Keeps.refl _ _) | exact hKeep.out | exact hKeepS.out _ | assumption | (with_reducible refine Keeps.drew ?_) | (with_reducible refine Keeps.drewN ?_ _) | (with_reducible refine Keeps.alloc ?_ _) | (with_reducible refine Keeps.setCell ?_ (.inl (by first | exact .inl rfl | exact .inr rfl)) _)))
    clear hK K hHeld
    have hHeld := hNext
    clear hNext
    (try dsimp only at hHeld)
    try simp only [zX]
    refine wpAnyH_ready (rs := [25]) (by kernel_rfl) (by simp) ?_
    refine (AllReadyH.cons rfl (fun K hK => ?_) AllReadyH.nil)
    go_simp
    (first | ((with_reducible refine HIH1.out.mono ?_); rintro e w1 ⟨m1', cnt1, rfl, r1⟩; have R1 := hide r1; have hKeep : Hid (Keeps (fun k => k = kb) w w1) := ⟨r1.keep.os, r1.keep.tape, r1.keep.output, r1.keep.size, r1.keep.block⟩; clear r1) | ((with_reducible refine (HIH2.out _ _ _ R1.out).mono ?_); rintro e w2 ⟨m2', cnt2, rfl, r2⟩; have R2 := hide r2; have hKeep2 : Hid (Keeps (fun k => k = kb) w w2) := hKeep.out.trans r2.keep (fun _ _ h => h); clear hKeep; have hKeep := hKeep2; clear r2 hKeep2))
    (try dsimp only)
    refine hK.out _ _ ?_ (fun hNext => ?_)
    · try dsimp only
      (repeat (first | (with_reducible exact Keeps.refl _ _) | exact hKeep.out | exact hKeepS.out _ | assumption | (with_reducible refine Keeps.drew ?_) | (with_reducible refine Keeps.drewN ?_ _) | (with_reducible refine Keeps.alloc ?_ _) | (with_reducible refine Keeps.setCell ?_ (.inl (by first | exact .inl rfl | exact .inr rfl)) _)))
    clear hK K hHeld
    have hHeld := hNext
    clear hNext
    (try dsimp only at hHeld)
    try simp only [zX]
    refine wpAnyH_take (i := 26) (v := ?v1_27) rfl (by kernel_rfl) (by kernel_rfl) (by kernel_rfl) (fun _ _ _ h => h) (Or.inl ⟨by rfl, ?y1_27⟩) (by assumption) ?r1_27
    case' y1_27 => (intro w hSw; (try dsimp only at hSw); (try have hlS := HLK.out _ hSw); have hcS := kcell1 hSw; clear hSw; go_simp; try with_reducible rfl)
    try simp only [zX]
    refine wpAnyH_take (i := 27) (v := ?v1_28) rfl (by kernel_rfl) (by kernel_rfl) (by kernel_rfl) (fun _ _ _ h => h) (Or.inl ⟨by rfl, ?y1_28⟩) (by assumption) ?r1_28
    case' y1_28 => (intro w hSw; (try dsimp only at hSw); (try have hlS := HLK.out _ hSw); have hcS := kcell1 hSw; clear hSw; go_simp; try with_reducible rfl)
    try simp only [zX]
    refine wpAnyH_done (by kernel_rfl) ?_ _
    have hcn : cnt2 < maxLen := by
      have h1 := R1.out.cnt
      have h2 := R2.out.cnt
      have h3 := HC.out
      unfold maxLen; omega
    go_wp2_with (at_mapUpdate; go_must (refine wpList_put _ rfl _ _ _ 98 rfl R2.out.map inLaw Tryz.underlying98 Tryz.underlying3 enN_inj hcn n ⟨_, HKL.out⟩ (z : Int) hz63 rfl rfl rfl ?_); intro w9 hm9 hg9; have HM9 := hide hm9; have HG9 := hide hg9; clear hm9 hg9)
    go_ret
    refine ⟨_, _, ret_int HF.out.2, ⟨hKeep.out.trans (Keeps.of_grown HG9.out (fun k hk => by injection hk with hk; exact hk.symm)) (fun _ _ h => h), HM9.out, fun n' x' hx' => ?_, ?_⟩⟩
    · unfold putM at hx'
      split at hx'
      · rename_i e
        injection hx' with hx'
        rw [e, HT.out.1, HT.out.2]
        exact ⟨hn, hx'.symm⟩
      · exact R2.out.ok n' x' hx'
    · have h1 := R1.out.cnt
      have h2 := R2.out.cnt
      have h3 := HC.out.2
      omega
end Go.Proofs.YtmabfnddedffoaaGreat

/- Part 19 of this claim's texts: walks and plain laws. -/
import Derived.Test.YtmgfijadjclmpaaRows
import Derived.Test.YtmgfijadjclmpaaGTC7
import Derived.Test.YtmgfijadjclmpaaGTC5
import Derived.Laws.ShiftsVarLaws
import Derived.Test.YtmgfijadjclmpaaGTC2
import Derived.Test.YtmgfijadjclmpaaGTC17
import Derived.Deep.DeepMust
import Derived.Deep.RegionHeld3
import Derived.Deep.DrawnRows
/- begin: walk. -/
namespace Go.Proofs.Ytmgfijadjclmpaa
open Go.RowKit
set_option linter.unusedVariables false
set_option linter.unusedSimpArgs false
/-- What begin gives back where nothing is wrong. -/
structure BegR (m : Mo) (w w' : World) (F : Fo) (n : Nat) : Prop where
  here : FoAt w' F
  N : F.N = m.opts.length
  base : w.heap.size ≤ F.base
  below : Below w.heap.size w w'
  base2 : F.base ≤ w'.heap.size
  lt : n < F.ks.length
  ev : ∀ v, ev F.ks v n = allF v m.rules
  len : F.ks.length ≤ 2 + 6120 * 2 ^ F.N
  nj : F.nj ≤ 6120 * 2 ^ F.N
theorem BegR.room {m : Mo} {w w' : World} {F : Fo} {n : Nat} (h : BegR m w w' F n) (hN : m.opts.length ≤ 12) {k : Nat} (hk : k ≤ 200000) : Room F k := by
  have h1 := h.len
  have h2 := h.nj
  have h3 : 2 ^ F.N ≤ 2 ^ 12 := Nat.pow_le_pow_right (by omega) (by rw [h.N]; exact hN)
  have h4 := Nat.mul_le_mul (Nat.le_refl 6120) h3
  have h5 := Nat.mul_le_mul hk h3
  unfold Room
  omega
set_option maxRecDepth 100000 in
theorem begin_ok (m : Mo) (l : List (List Int)) (ov rv lv : Value) (w : World) (hs : SizedM m) (hl : Sized l) (h : MoAt w w.heap.size ov rv m) (hf : Forms w w.heap.size lv l) (he : m.errF l = 0) (hN : m.opts.length ≤ 12) :
    Calls Try.prog 29 #[.agg #[ov, rv], lv] w fun e w' => ∃ F n, e = .returned (.tuple #[.pointer (some ⟨F.p, 0, none⟩), .int .i64 (n : Nat), .int .i64 0]) ∧ BegR m w w' F n := by
  obtain ⟨A, cap, hov⟩ := Sl.form h.o
  obtain ⟨Ar, capr, hrv⟩ := h.r.form
  obtain ⟨Al, capl, hlv⟩ := hf.form
  have H := hide h
  have HF := hide hf
  have hok := Mo.ok (Mo.okF he).1
  subst hov hrv hlv
  clear h hf
  go_enter Try.func29, Try.ntmps29
  go_upto_region 1 with (fail)
  generalize hw0 : World.alloc _ _ = w0
  obtain ⟨hb0, hB0, hs0⟩ := alloc1 hw0
  clear hw0
  have c0 := cellOf hb0 0
  have c1 := cellOf hb0 1
  have HX0 : Hid (MoBox w0 w.heap.size (.slice A m.opts.length cap) (.slice Ar m.rules.length capr)) := hb0
  have HB0 := hide hB0
  have hck := check_any m l (.slice A m.opts.length cap) (.slice Ar m.rules.length capr) (.slice Al l.length capl) w0 hs hl (H.out.up hB0) (HF.out.up hB0)
  rw [he] at hck
  have HCK := hide hck
  have HOK := hide hok
  clear hb0 hB0 hs0 hck he hok
  go_wp2_with (first | (go_at_call 43; refine HCK.out.mono ?_; rintro e w1 ⟨rfl, hB1⟩; have hbx := box_to HX0.out hB1; have d0 := cellOf hbx 0; have d1 := cellOf hbx 1; have HB1 : Hid (Below w.heap.size w w1) := Below.to HB0.out hB1 (Nat.le_refl _); have HX1 : Hid (MoBox w1 w.heap.size (.slice A m.opts.length cap) (.slice Ar m.rules.length capr)) := hbx; clear hbx hB1 c0 c1) | (go_at_call 44; refine (newForest_any m.opts.length (by omega) _).mono ?_; rintro e w2 ⟨rfl, hF2, hB2⟩; have hbx := box_to HX1.out hB2; have x0 := cellOf hbx 0; have x1 := cellOf hbx 1; have HB2 : Hid (Below w.heap.size w w2) := Below.to HB1.out hB2 (Nat.le_refl _); have HF2 := hide hF2; have HS2 : Hid (w1.heap.size ≤ w2.heap.size) := hB2.size; clear hbx hB2 hF2 d0 d1))
  have hp : 2 ^ m.opts.length ≤ 2 ^ 12 := Nat.pow_le_pow_right (by omega) hN
  have hrl : 102 * m.rules.length ≤ 6120 := by have := HOK.out.2.1; omega
  have hmu := Nat.mul_le_mul hrl hp
  have hmu2 : 102 * m.rules.length * 2 ^ m.opts.length ≤ 6120 * 2 ^ m.opts.length := Nat.mul_le_mul_right _ hrl
  have hs1 := HB1.out.size
  have hs2 := HS2.out
  have hal := all_any (newFo w1.heap.size m.opts.length) m.rules (.slice Ar m.rules.length capr) w2 HF2.out hs2 HOK.out.2.2.2 ((H.out.r.below HB2.out).more hs1) (by have := HOK.out.2.1; omega) ⟨by show 2 + 102 * m.rules.length * 2 ^ m.opts.length ≤ _; omega, by show 0 + 102 * m.rules.length * 2 ^ m.opts.length ≤ _; omega⟩
  have HAL : Hid (Calls Try.prog 45 #[.pointer (some ⟨w1.heap.size + 3, 0, none⟩), .slice Ar m.rules.length capr] w2 _) := hal
  have HMU : Hid (102 * m.rules.length * 2 ^ m.opts.length ≤ 6120 * 2 ^ m.opts.length) := hmu2
  clear hp hrl hmu hmu2 hs1 hs2 hal
  refine HAL.out.mono ?_
  rintro e w3 ⟨n, F3, rfl, r1, r2, r3⟩
  have R1 := hide r1
  have R3 := hide r3
  clear r1 r3
  go_wp2_with fail
  go_ret3
  refine ⟨F3, n, ?_, ?_⟩
  · rw [R1.out.st.p]; rfl
  · have hb3 := R1.out.st.below HF2.out HS2.out
    refine ⟨R1.out.st.here, R1.out.st.N, by rw [R1.out.st.ba]; exact HB1.out.size, ?_, ?_, r2, R3.out, ?_, ?_⟩
    · exact ⟨hb3.os.trans HB2.out.os, hb3.tape.trans HB2.out.tape, hb3.output.trans HB2.out.output, Nat.le_trans HB2.out.size hb3.size, fun k hk => (hb3.block k (Nat.lt_of_lt_of_le hk HB1.out.size)).trans (HB2.out.block k hk)⟩
    · rw [R1.out.st.ba]; exact Nat.le_trans HS2.out hb3.size
    · have h1 := R1.out.len
      have h2 := HMU.out
      rw [R1.out.st.N]
      show _ ≤ 2 + 6120 * 2 ^ m.opts.length
      replace h1 : F3.ks.length ≤ 2 + 102 * m.rules.length * 2 ^ m.opts.length := h1
      omega
    · have h1 := R1.out.nj
      have h2 := HMU.out
      rw [R1.out.st.N]
      show _ ≤ 6120 * 2 ^ m.opts.length
      replace h1 : F3.nj ≤ 0 + 102 * m.rules.length * 2 ^ m.opts.length := h1
      omega
end Go.Proofs.Ytmgfijadjclmpaa
/- How many variants a node holds in: walk. -/
namespace Go.Proofs.Ytmgfijadjclmpaa
open Go.RowKit
open Go.Maps (Keyed)
set_option linter.unusedVariables false
set_option linter.unusedSimpArgs false
def enN (n : Nat) : Value := .int .i64 n
theorem enN_inj (a b : Nat) (h : enN a = enN b) : a = b := by
  unfold enN at h
  injection h with _ h
  omega
theorem enKey {n : Nat} (h : I63 n) : ∃ l, keyOf Try.prog 3 (enN n) = some l := ⟨_, Maps.keyOf_int_mk Try.underlying3 (wf63 h)⟩
theorem inLaw : Keyed Try.prog 3 := Maps.int_keyed Try.underlying3
/-- What the map of counts holds is right. -/
def CntOk (ks : List Kn) (N : Nat) (m : Nat → Option Int) : Prop := ∀ n x, m n = some x → n < ks.length ∧ x = (cntK ks N n (topK ks n) : Nat)
structure CntR (F : Fo) (kb d : Nat) (w : World) (cnt : Nat) (w' : World) (m' : Nat → Option Int) (cnt' : Nat) : Prop where
  keep : Keeps (fun k => k = kb) w w'
  map : MapIs Try.prog w' 3 3 kb cnt' enN m'
  ok : CntOk F.ks F.N m'
  cnt : cnt' + 1 ≤ cnt + 2 ^ (d + 1)

theorem shl_cnt {N : Nat} {ks : List Kn} (hw : WF N ks) (hN : N ≤ 20) {n o k : Nat} (hn : n < ks.length) (hk : topK ks n = o + k) : wrap64 ((cntK ks N n (topK ks n) : Int) * 2 ^ min k 64) = (cntK ks N n o : Nat) ∧ wrap64 ((cntK ks N n (topK ks n) : Int) * 2 ^ k) = (cntK ks N n o : Nat) := by
  have h1 := cntK_lift hw hn k o hk.symm
  have h2 := cntK_le ks N n o
  have h3 := hw.top_le n hn
  have h4 : (2 : Nat) ^ (N - o) ≤ 2 ^ 20 := Nat.pow_le_pow_right (by omega) (by omega)
  have h5 : min k 64 = k := by omega
  rw [h5, h1]
  refine (fun h => ⟨h, h⟩) ?_
  have h6 : ((cntK ks N n (topK ks n) * 2 ^ k : Nat) : Int) = (cntK ks N n (topK ks n) : Int) * 2 ^ k := by simp
  rw [← h6, IntWalk.wrap64_in _ (by omega)]
set_option maxRecDepth 100000 in
theorem countZero_any (F : Fo) (kb o : Nat) (w : World) :
    Calls Try.prog 30 #[.pointer (some ⟨F.p, 0, none⟩), .int .i64 0, .int .i64 o, .map (some kb)] w
      fun e w' => e = .returned (.int .i64 0) ∧ w = w' := by
  go_enter Try.func30, Try.ntmps30
  go_wp2_with fail
  go_ret
  exact ⟨rfl, rfl⟩
set_option maxRecDepth 100000 in
set_option maxHeartbeats 2000000 in
theorem countHit_any (F : Fo) (kb : Nat) (hN : F.N ≤ 20) (d n o x : Nat) (w : World) (m : Nat → Option Int) (cnt : Nat) (h : FoAt w F) (hn : n < F.ks.length) (h0 : n ≠ 0) (ho : o ≤ topK F.ks n) (hm : MapIs Try.prog w 3 3 kb cnt enN m) (hx : m n = some ((cntK F.ks F.N n (topK F.ks n) : Nat) : Int)) :
    Calls Try.prog 30 #[.pointer (some ⟨F.p, 0, none⟩), .int .i64 n, .int .i64 o, .map (some kb)] w
      fun e w' => e = .returned (.int .i64 (cntK F.ks F.N n o : Nat)) ∧ w = w' := by
  have h01 : ((n : Int) == 0) = false := by simp; omega
  obtain ⟨kl, hkl⟩ := enKey (n := n) (by have := h.small; unfold I63; omega)
  have hlk : (Instr.lookup 72 (.map (some kb)) (.int .i64 n) true).run Try.prog w = .ok (.tuple #[.int .i64 ((m n).getD 0), .bool (m n).isSome]) w := hm.look inLaw Try.underlying72 Try.underlying3 (zInt w) hkl
  have hsm := h.small
  have hi0 : (0 : Int) ≤ (n : Int) := by omega
  have hi1 : (n : Int) < (F.ks.length : Int) := by omega
  have c1 := h.cellS
  obtain ⟨k0, k1, k2⟩ := h.knot hn
  rw [hx] at hlk
  simp only [Option.getD_some, Option.isSome_some] at hlk
  obtain ⟨k, hk⟩ : ∃ k, topK F.ks n = o + k := ⟨topK F.ks n - o, by omega⟩
  have hsub : (topK F.ks n : Int) - (o : Int) = (k : Int) := by omega
  have hk0 : (0 : Int) ≤ (k : Int) := by omega
  have hk20 : (k : Int) ≤ 1000 := by have := h.wf.top_le n hn; omega
  have HF := hide (shl_cnt h.wf hN hn hk)
  clear h hm hx hkl hk h0 hsm
  go_enter Try.func30, Try.ntmps30
  go_wp2_with fail
  go_ret
  exact ⟨ret_int HF.out.1, rfl⟩
set_option maxRecDepth 100000 in
set_option maxHeartbeats 2000000 in
theorem countOne_any (F : Fo) (kb : Nat) (hnb : ¬ SF F kb) (hN : F.N ≤ 20) (d o : Nat) (w : World) (m : Nat → Option Int) (cnt : Nat) (h : FoAt w F) (ho : o ≤ F.N) (hm : MapIs Try.prog w 3 3 kb cnt enN m) (hok : CntOk F.ks F.N m) (hc : cnt + 2 ^ (d + 1) ≤ 1073741824) (hx : m 1 = none) :
    Calls Try.prog 30 #[.pointer (some ⟨F.p, 0, none⟩), .int .i64 1, .int .i64 o, .map (some kb)] w
      fun e w' => ∃ m' cnt', e = .returned (.int .i64 (cntK F.ks F.N 1 o : Nat)) ∧ CntR F kb d w cnt w' m' cnt' := by
  have h2 := h.wf.two
  have ht1 := h.wf.top1
  obtain ⟨kl, hkl⟩ := enKey (n := 1) (by unfold I63; omega)
  have hlk : (Instr.lookup 72 (.map (some kb)) (.int .i64 1) true).run Try.prog w = .ok (.tuple #[.int .i64 ((m 1).getD 0), .bool (m 1).isSome]) w := hm.look inLaw Try.underlying72 Try.underlying3 (zInt w) hkl
  have hsm := h.small
  have hi1 : (1 : Int) < (F.ks.length : Int) := by omega
  have hi2 : 1 < F.ks.length := by omega
  have c1 := h.cellS
  obtain ⟨k0, k1, k2⟩ := h.knot (n := 1) (by omega)
  simp only [Nat.one_mul] at k0 k1 k2
  rw [hx] at hlk
  simp only [Option.getD_none, Option.isSome_none] at hlk
  obtain ⟨k, hk⟩ : ∃ k, topK F.ks 1 = o + k := ⟨topK F.ks 1 - o, by omega⟩
  have hsub : (topK F.ks 1 : Int) - (o : Int) = (k : Int) := by omega
  have hk0 : (0 : Int) ≤ (k : Int) := by omega
  have hk20 : (k : Int) ≤ 1000 := by omega
  have hone : cntK F.ks F.N 1 (topK F.ks 1) = 1 := by rw [ht1]; exact cntK_one
  have hfin := shl_cnt h.wf hN (show 1 < F.ks.length by omega) hk
  have hput := hone
  rw [hone] at hfin
  have HF := hide hfin
  have HM := hide hm
  have HOK := hide hok
  have HONE := hide hone
  have hp := pow_pos2 d
  have HC : Hid (cnt + 1 + 1 ≤ cnt + 2 ^ (d + 1)) := by show cnt + 1 + 1 ≤ _; rw [Nat.pow_succ]; omega
  have HKL := hide hkl
  have hcn : cnt < maxLen := by unfold maxLen; omega
  clear h hm hx hkl hk hsm hok hone hput hfin ht1
  go_enter Try.func30, Try.ntmps30
  go_wp2_with (at_mapUpdate; go_must (refine wpList_put _ rfl _ _ _ 72 rfl HM.out inLaw Try.underlying72 Try.underlying3 enN_inj hcn 1 ⟨_, HKL.out⟩ 1 (by decide) rfl rfl rfl ?_); intro w9 hm9 hg9; have HM9 := hide hm9; have HG9 := hide hg9; clear hm9 hg9)
  go_ret
  have hfo : wrap64 (2 ^ min k 64) = (cntK F.ks F.N 1 o : Nat) := by
    have h1 := HF.out.1
    simpa using h1
  exact ⟨_, _, ret_int hfo, ⟨Keeps.of_grown HG9.out (fun k hk => by injection hk with hk; exact hk.symm), HM9.out, fun n x hx => by
    unfold putM at hx
    split at hx
    · rename_i e
      injection hx with hx
      rw [e, HONE.out]
      exact ⟨hi2, hx.symm⟩
    · exact HOK.out n x hx, HC.out⟩⟩

set_option maxRecDepth 100000 in
set_option maxHeartbeats 4000000 in
theorem count_any (F : Fo) (kb : Nat) (hnb : ¬ SF F kb) (hN : F.N ≤ 20) : ∀ (d n o : Nat) (w : World) (m : Nat → Option Int) (cnt : Nat), FoAt w F → n < F.ks.length → F.N - topK F.ks n ≤ d → o ≤ topK F.ks n → MapIs Try.prog w 3 3 kb cnt enN m → CntOk F.ks F.N m → cnt + 2 ^ (d + 1) ≤ 1073741824 →
    Calls Try.prog 30 #[.pointer (some ⟨F.p, 0, none⟩), .int .i64 n, .int .i64 o, .map (some kb)] w
      fun e w' => ∃ m' cnt', e = .returned (.int .i64 (cntK F.ks F.N n o : Nat)) ∧ CntR F kb d w cnt w' m' cnt' := by
  intro d
  induction d with
  | zero =>
    intro n o w m cnt h hn hd ho hm hok hc
    by_cases h0 : n = 0
    · subst h0
      refine (countZero_any F kb o w).mono ?_
      rintro e w' ⟨rfl, rfl⟩
      exact ⟨m, cnt, by rw [cntK_zero]; rfl, ⟨Keeps.refl _ _, hm, hok, by omega⟩⟩
    · have h1 : n = 1 := by
        rcases Nat.lt_or_ge n 2 with h2 | h2
        · omega
        · have := h.wf.opt n h2 hn; omega
      subst h1
      rw [h.wf.top1] at ho
      cases hx : m 1 with
      | none => exact countOne_any F kb hnb hN 0 o w m cnt h ho hm hok hc hx
      | some x =>
        have h2 := (hok 1 x hx).2
        refine (countHit_any F kb hN 0 1 o 0 w m cnt h hn h0 (by rw [h.wf.top1]; exact ho) hm (by rw [hx, h2])).mono ?_
        rintro e w' ⟨rfl, rfl⟩
        exact ⟨m, cnt, rfl, ⟨Keeps.refl _ _, hm, hok, by omega⟩⟩
  | succ d ih =>
    intro n o w m cnt h hn hd ho hm hok hc
    by_cases h0 : n = 0
    · subst h0
      refine (countZero_any F kb o w).mono ?_
      rintro e w' ⟨rfl, rfl⟩
      have := pow_pos2 (d + 1 + 1)
      exact ⟨m, cnt, by rw [cntK_zero]; rfl, ⟨Keeps.refl _ _, hm, hok, by omega⟩⟩
    cases hx : m n with
    | some x =>
      have h2 := (hok n x hx).2
      refine (countHit_any F kb hN 0 n o 0 w m cnt h hn h0 ho hm (by rw [hx, h2])).mono ?_
      rintro e w' ⟨rfl, rfl⟩
      have := pow_pos2 (d + 1 + 1)
      exact ⟨m, cnt, rfl, ⟨Keeps.refl _ _, hm, hok, by omega⟩⟩
    | none =>
    by_cases h1 : n = 1
    · subst h1
      rw [h.wf.top1] at ho
      exact countOne_any F kb hnb hN (d + 1) o w m cnt h ho hm hok hc hx
    have h01 : ((n : Int) == 0) = false := by simp; omega
    have h02 : ((n : Int) != 1) = true := by simp; omega
    have hn2 : 2 ≤ n := by omega
    obtain ⟨kl, hkl⟩ := enKey (n := n) (by have := h.small; unfold I63; omega)
    have hlk : (Instr.lookup 72 (.map (some kb)) (.int .i64 n) true).run Try.prog w = .ok (.tuple #[.int .i64 ((m n).getD 0), .bool (m n).isSome]) w := hm.look inLaw Try.underlying72 Try.underlying3 (zInt w) hkl
    rw [hx] at hlk
    simp only [Option.getD_none, Option.isSome_none] at hlk
    have hsm := h.small
    have hi0 : (0 : Int) ≤ (n : Int) := by omega
    have hi1 : (n : Int) < (F.ks.length : Int) := by omega
    have c1 := h.cellS
    obtain ⟨k0, k1, k2⟩ := h.knot hn
    obtain ⟨l0, l1, l2, l3⟩ := h.lts
    have ll := h.wf.low n hn2 hn
    have lh := h.wf.high n hn2 hn
    have tl := h.wf.topl n hn2 hn
    have th := h.wf.toph n hn2 hn
    have tN := h.wf.opt n hn2 hn
    have hnode := cntK_node h.wf hn2 hn
    have b1 := cntK_le F.ks F.N (lowK F.ks n) (topK F.ks n + 1)
    have b2 := cntK_le F.ks F.N (highK F.ks n) (topK F.ks n + 1)
    have hp20 : (2 : Nat) ^ (F.N - (topK F.ks n + 1)) ≤ 2 ^ 20 := Nat.pow_le_pow_right (by omega) (by omega)
    obtain ⟨lo, hlo⟩ : ∃ lo, lowK F.ks n = lo := ⟨_, rfl⟩
    obtain ⟨hi, hhi⟩ : ∃ hi, highK F.ks n = hi := ⟨_, rfl⟩
    obtain ⟨t, ht⟩ : ∃ t, topK F.ks n = t := ⟨_, rfl⟩
    rw [hlo] at ll tl k1 hnode b1
    rw [hhi] at lh th k2 hnode b2
    obtain ⟨k, hk⟩ : ∃ k, topK F.ks n = o + k := ⟨topK F.ks n - o, by omega⟩
    have hfin := shl_cnt h.wf hN hn hk
    rw [ht] at k0 tl th tN hnode b1 b2 hd ho hk hp20 hfin
    have hdl : F.N - topK F.ks lo ≤ d := by omega
    have hdh : F.N - topK F.ks hi ≤ d := by omega
    obtain ⟨x, hxe⟩ : ∃ x, cntK F.ks F.N lo (t + 1) = x := ⟨_, rfl⟩
    obtain ⟨y, hye⟩ : ∃ y, cntK F.ks F.N hi (t + 1) = y := ⟨_, rfl⟩
    obtain ⟨z, hze⟩ : ∃ z, cntK F.ks F.N n t = z := ⟨_, rfl⟩
    rw [hxe] at b1
    rw [hye] at b2
    rw [hxe, hye, hze] at hnode
    rw [hze] at hfin
    have hsum : IntKind.i64.wrap ((x : Int) + (y : Int)) = (z : Int) := by rw [IntWalk.i64_in _ (by omega)]; omega
    have hz63 : (Lit.int .i64 (z : Int)).wf = true := wf63 (by unfold I63; omega)
    have hsub : (t : Int) - (o : Int) = (k : Int) := by omega
    have hk0 : (0 : Int) ≤ (k : Int) := by omega
    have hk20 : (k : Int) ≤ 1000 := by omega
    have ht1 : IntKind.i64.wrap ((t : Int) + 1) = (t : Int) + 1 := IntWalk.i64_in _ (by omega)
    have hcast : ((t + 1 : Nat) : Int) = (t : Int) + 1 := by omega
    have hpw : 2 ^ (d + 1 + 1) = 2 ^ (d + 1) + 2 ^ (d + 1) := by rw [Nat.pow_succ]; omega
    have hpp := pow_pos2 (d + 1)
    have hih1 := ih lo (t + 1) w.drew m cnt (h.same fun _ _ => rfl) (by omega) hdl (by omega) (hm.same rfl) hok (by omega)
    rw [hcast, hxe] at hih1
    have HIH2 : Hid (∀ (w1 : World) (m1 : Nat → Option Int) (cnt1 : Nat), CntR F kb d w.drew cnt w1 m1 cnt1 →
        Calls Try.prog 30 #[.pointer (some ⟨F.p, 0, none⟩), .int .i64 hi, .int .i64 ((t : Int) + 1), .map (some kb)] w1
          fun e w' => ∃ m' cnt', e = .returned (.int .i64 (y : Nat)) ∧ CntR F kb d w1 cnt1 w' m' cnt') := by
      intro w1 m1 cnt1 r
      have h1 := ih hi (t + 1) w1 m1 cnt1 ((h.same (w' := w.drew) fun _ _ => rfl).keeps r.keep (fun k hk e => hnb (e ▸ hk))) (by omega) hdh (by omega) r.map r.ok (by have := r.cnt; have := pow_pos2 (d + 1); omega)
      rw [hcast, hye] at h1
      exact h1
    have m1 : ¬ F.p = kb := fun e => hnb (.inl e.symm)
    have m2 : ¬ F.kb = kb := fun e => hnb (.inr (.inr (.inr e.symm)))
    have HIH1 := hide hih1
    have HF := hide hfin
    have HOK := hide hok
    have HKL := hide hkl
    have HT := hide (And.intro ht hze)
    have HC : Hid (cnt + 2 ^ (d + 1 + 1) ≤ 1073741824 ∧ 2 ^ (d + 1 + 1) = 2 ^ (d + 1) + 2 ^ (d + 1)) := ⟨hc, hpw⟩
    clear hih1 hfin hok hkl ht hze hm h hxe hye ih hlo hhi hnode hx hcast hpw hc hk
    go_enter Try.func30, Try.ntmps30
    go_upto_region 8 with (fail)
    refine wp_region_held_drew (S := (fun w' => Keeps (fun k => k = kb) w w')) (by kernel_rfl) ?_ (fun hHeld => ?_)
    · try dsimp only
      (repeat (first | (with_reducible exact Keeps.refl _ _) | exact hKeep.out | exact hKeepS.out _ | assumption | (with_reducible refine Keeps.drew ?_) | (with_reducible refine Keeps.drewN ?_ _) | (with_reducible refine Keeps.alloc ?_ _) | (with_reducible refine Keeps.setCell ?_ (.inl (by first | exact .inl rfl | exact .inr rfl)) _)))
    refine zI 0 rfl ?_
    refine zI 1 rfl ?_
    refine zI 2 rfl ?_
    refine zI 3 rfl ?_
    refine zI 4 rfl ?_
    refine zI 5 rfl ?_
    refine zI 6 rfl ?_
    refine zI 7 rfl ?_
    refine zI 8 rfl ?_
    refine zI 9 rfl ?_
    refine zI 10 rfl ?_
    refine zI 11 rfl ?_
    refine zI 13 rfl ?_
    refine zI 14 rfl ?_
    refine zI 15 rfl ?_
    refine zI 16 rfl ?_
    refine zI 17 rfl ?_
    refine zI 18 rfl ?_
    refine zI 19 rfl ?_
    refine zI 20 rfl ?_
    refine zI 21 rfl ?_
    refine zI 22 rfl ?_
    refine zI 23 rfl ?_
    refine zI 24 rfl ?_
    refine wpAnyH_ready (rs := [12]) (by kernel_rfl) (by simp) ?_
    refine (AllReadyH.cons rfl (fun K hK => ?_) AllReadyH.nil)
    go_simp
    (first | ((with_reducible refine HIH1.out.mono ?_); rintro e w1 ⟨m1', cnt1, rfl, r1⟩; have R1 := hide r1; have hKeep : Hid (Keeps (fun k => k = kb) w w1) := ⟨r1.keep.os, r1.keep.tape, r1.keep.output, r1.keep.size, r1.keep.block⟩; clear r1) | ((with_reducible refine (HIH2.out _ _ _ R1.out).mono ?_); rintro e w2 ⟨m2', cnt2, rfl, r2⟩; have R2 := hide r2; have hKeep2 : Hid (Keeps (fun k => k = kb) w w2) := hKeep.out.trans r2.keep (fun _ _ h => h); clear hKeep; have hKeep := hKeep2; clear r2 hKeep2))
    (try dsimp only)
    refine hK.out _ _ ?_ (fun hNext => ?_)
    · try dsimp only
      (repeat (first | (with_reducible exact Keeps.refl _ _) | exact hKeep.out | exact hKeepS.out _ | assumption | (with_reducible refine Keeps.drew ?_) | (with_reducible refine Keeps.drewN ?_ _) | (with_reducible refine Keeps.alloc ?_ _) | (with_reducible refine Keeps.setCell ?_ (.inl (by first | exact .inl rfl | exact .inr rfl)) _)))
    clear hK K hHeld
    have hHeld := hNext
    clear hNext
    (try dsimp only at hHeld)
    try simp only [zX]
    refine wpAnyH_ready (rs := [25]) (by kernel_rfl) (by simp) ?_
    refine (AllReadyH.cons rfl (fun K hK => ?_) AllReadyH.nil)
    go_simp
    (first | ((with_reducible refine HIH1.out.mono ?_); rintro e w1 ⟨m1', cnt1, rfl, r1⟩; have R1 := hide r1; have hKeep : Hid (Keeps (fun k => k = kb) w w1) := ⟨r1.keep.os, r1.keep.tape, r1.keep.output, r1.keep.size, r1.keep.block⟩; clear r1) | ((with_reducible refine (HIH2.out _ _ _ R1.out).mono ?_); rintro e w2 ⟨m2', cnt2, rfl, r2⟩; have R2 := hide r2; have hKeep2 : Hid (Keeps (fun k => k = kb) w w2) := hKeep.out.trans r2.keep (fun _ _ h => h); clear hKeep; have hKeep := hKeep2; clear r2 hKeep2))
    (try dsimp only)
    refine hK.out _ _ ?_ (fun hNext => ?_)
    · try dsimp only
      (repeat (first | (with_reducible exact Keeps.refl _ _) | exact hKeep.out | exact hKeepS.out _ | assumption | (with_reducible refine Keeps.drew ?_) | (with_reducible refine Keeps.drewN ?_ _) | (with_reducible refine Keeps.alloc ?_ _) | (with_reducible refine Keeps.setCell ?_ (.inl (by first | exact .inl rfl | exact .inr rfl)) _)))
    clear hK K hHeld
    have hHeld := hNext
    clear hNext
    (try dsimp only at hHeld)
    try simp only [zX]
    refine zI 26 rfl ?_
    refine zI 27 rfl ?_
    refine wpAnyH_done (by kernel_rfl) ?_ _
    have hcn : cnt2 < maxLen := by
      have h1 := R1.out.cnt
      have h2 := R2.out.cnt
      have h3 := HC.out
      unfold maxLen; omega
    go_wp2_with (at_mapUpdate; go_must (refine wpList_put _ rfl _ _ _ 72 rfl R2.out.map inLaw Try.underlying72 Try.underlying3 enN_inj hcn n ⟨_, HKL.out⟩ (z : Int) hz63 rfl rfl rfl ?_); intro w9 hm9 hg9; have HM9 := hide hm9; have HG9 := hide hg9; clear hm9 hg9)
    go_ret
    refine ⟨_, _, ret_int HF.out.2, ⟨hKeep.out.trans (Keeps.of_grown HG9.out (fun k hk => by injection hk with hk; exact hk.symm)) (fun _ _ h => h), HM9.out, fun n' x' hx' => ?_, ?_⟩⟩
    · unfold putM at hx'
      split at hx'
      · rename_i e
        injection hx' with hx'
        rw [e, HT.out.1, HT.out.2]
        exact ⟨hn, hx'.symm⟩
      · exact R2.out.ok n' x' hx'
    · have h1 := R1.out.cnt
      have h2 := R2.out.cnt
      have h3 := HC.out.2
      omega
end Go.Proofs.Ytmgfijadjclmpaa
/- Count: walk. -/
namespace Go.Proofs.Ytmgfijadjclmpaa
open Go.RowKit
set_option linter.unusedVariables false
set_option linter.unusedSimpArgs false
/-- The buildable variants in which a formula holds. -/
def satM (m : Mo) (p : (Nat → Bool) → Bool) : List (List Bool) := (exts m.opts.length []).filter fun x => allF (vf x) m.rules && p (vf x)
theorem satM_node {m : Mo} {ks : List Kn} {N n : Nat} {p : (Nat → Bool) → Bool} (hN : N = m.opts.length) (h : ∀ v, ev ks v n = (allF v m.rules && p v)) : sat ks N n [] = satM m p := by
  unfold sat satM
  rw [hN]
  exact List.filter_congr fun x _ => h _
/-- One formula in a new block is a list of formulas. -/
theorem forms_one {w : World} {b B : Nat} {fv : Value} {f : List Int} {t : Nat} (hb : w.heap[b]? = some (.cells #[fv] t (0, 0))) (hB : b < B) (h : Ints w B fv f) : Forms w B (.slice (some ⟨b, 0, none⟩) 1 1) [f] :=
  ⟨fun _ => fv, ⟨_, b, 0, 1, rfl, Nat.le_refl _, .inl ⟨rfl, hB⟩, fun i j hi hj => by
    simp at hi
    obtain rfl : j = 0 := by omega
    subst hi
    exact cellOf hb 0⟩, fun i hi => by
    simp at hi
    subst hi
    exact h⟩
theorem sized_one {f : List Int} (h : f.length ≤ maxLen) : Sized [f] := ⟨by unfold maxLen; simp, fun g hg => by simp at hg; rw [hg]; exact h⟩
/-- After begin and further steps all that was there before is as it was. -/
theorem OpR.low {m : Mo} {w w1 w2 : World} {F F2 : Fo} {n k : Nat} (h : BegR m w w1 F n) (r : OpR k w1 F w2 F2) : Below w.heap.size w w2 := by
  have hb := r.st.below h.here h.base2
  exact ⟨hb.os.trans h.below.os, hb.tape.trans h.below.tape, hb.output.trans h.below.output, Nat.le_trans h.below.size hb.size, fun k hk => (hb.block k (Nat.lt_of_lt_of_le hk h.base)).trans (h.below.block k hk)⟩
theorem BegR.of {m : Mo} {w w0 w1 : World} {F : Fo} {n : Nat} (h : BegR m w0 w1 F n) (hb : Below w.heap.size w w0) : BegR m w w1 F n :=
  ⟨h.here, h.N, Nat.le_trans hb.size h.base, Below.to hb h.below (Nat.le_refl _), h.base2, h.lt, h.ev, h.len, h.nj⟩
theorem BegR.op {m : Mo} {w w1 : World} {F : Fo} {n : Nat} (h : BegR m w w1 F n) : OpR 0 w1 F w1 F := OpR.refl h.here 0
theorem grow_beg {m : Mo} {w w1 w2 : World} {F F1 : Fo} {n k : Nat} {f : List Int} {fv : Value} (h : BegR m w w1 F n) (hN : m.opts.length ≤ 12) (r : OpR k w1 F w2 F1) (hk : k + 100 ≤ 200000) (hf : Ints w w.heap.size fv f) (hv : validF m.opts.length f = true) :
    Calls Try.prog 32 #[.pointer (some ⟨F.p, 0, none⟩), fv] w2
      fun e w' => ∃ g F', e = .returned (.int .i64 (g : Nat)) ∧ OpR (k + 100) w1 F w' F' ∧ OpR 100 w2 F1 w' F' ∧ g < F'.ks.length ∧ ∀ v, ev F'.ks v g = evF1 v f := by
  have hl := (validF_pos hv).2
  have hc := grow_any F1 f fv w2 r.st.here (by rw [r.st.ba]; exact Nat.le_trans h.base2 r.st.keep.size) (by rw [r.st.N, h.N]; exact hv) (by
    rw [r.st.ba]
    exact (hf.below (r.low h)).more h.base) ((h.room hN (k := k + 100) hk |>.step r).mono hl)
  rw [r.st.p] at hc
  refine hc.mono ?_
  rintro e w' ⟨g, F', rfl, r1, r2, r3⟩
  exact ⟨g, F', rfl, r.trans (r1.mono hl), r1.mono hl, r2, r3⟩
/-- and of some nodes, in a block that was just made. -/
theorem and_beg {m : Mo} {w w1 w2 : World} {F F1 : Fo} {n k : Nat} {l : List Nat} (h : BegR m w w1 F n) (hN : m.opts.length ≤ 12) (r : OpR k w1 F w2 F1) (hk : k + 4 ≤ 200000) (hl : l.length ≤ 4) (hln : ∀ x ∈ l, x < F1.ks.length) :
    Calls Try.prog 31 #[.pointer (some ⟨F.p, 0, none⟩), .slice (some ⟨w2.heap.size, 0, none⟩) l.length l.length] (w2.alloc (.cells (l.map fun (n : Nat) => Value.int .i64 n).toArray 3))
      fun e w' => ∃ g F', e = .returned (.int .i64 (g : Nat)) ∧ OpR (k + 4) w1 F w' F' ∧ OpR 4 w2 F1 w' F' ∧ g < F'.ks.length ∧ ∀ v, ev F'.ks v g = l.all (fun x => ev F1.ks v x) := by
  have hB : Below w2.heap.size w2 (w2.alloc (.cells (l.map fun (n : Nat) => Value.int .i64 n).toArray 3)) := (Below.refl _ _).alloc (Nat.le_refl _) _
  have hc := and_any F1 w2.heap.size l _ (r.st.here.below hB) hln (heap_new _ _ _ rfl) (fun e => by have := r.st.here.slt e; omega) (by omega) ((h.room hN (k := k + 4) hk |>.step r).mono hl)
  rw [r.st.p] at hc
  refine hc.mono ?_
  rintro e w' ⟨g, F', rfl, r1, r2, r3⟩
  have r4 : OpR 4 w2 F1 w' F' := (OpR.after_below r.st.here hB r1).mono hl
  exact ⟨g, F', rfl, r.trans r4, r4, r2, r3⟩
set_option maxRecDepth 100000 in
set_option maxHeartbeats 1000000 in
theorem Count_ok (m : Mo) (f : List Int) (ov rv fv : Value) (w : World) (hs : SizedM m) (hl : f.length ≤ maxLen) (h : MoAt w w.heap.size ov rv m) (hf : Ints w w.heap.size fv f) (he : m.errF [f] = 0) (hN : m.opts.length ≤ 12) :
    Calls Try.prog 13 #[.agg #[ov, rv], fv] w fun e w' => e = .returned (.tuple #[.int .i64 ((satM m fun v => evF1 v f).length : Nat), .int .i64 0]) ∧ Below w.heap.size w w' := by
  have hmm := @run_makeMap Try.prog
  obtain ⟨A, cap, hov⟩ := Sl.form h.o
  obtain ⟨Ar, capr, hrv⟩ := h.r.form
  obtain ⟨Al, capl, hlv⟩ := Sl.form hf
  have H := hide h
  have HF := hide hf
  have HOK := hide (Mo.okF he)
  subst hov hrv hlv
  have hB2 : Below w.heap.size w ((w.alloc (.cells #[.slice A m.opts.length cap, .slice Ar m.rules.length capr] 54)).alloc (.cells #[.slice Al f.length capl] 51)) := (by repeat (first | exact Below.refl _ _ | assumption | refine Below.drew ?_ | refine Below.drewN ?_ _ | refine Below.allocT ?_ (Nat.le_refl _) _ | refine Below.setCell ?_ (by simp <;> omega) _ | refine Below.to ?_ (by assumption) (Nat.le_refl _)))
  have hbe := begin_ok m [f] (.slice A m.opts.length cap) (.slice Ar m.rules.length capr) (.slice (some ⟨w.heap.size + 1, 0, none⟩) 1 1) _ hs (sized_one hl) (h.up hB2) (forms_one (heap_new _ _ _ (by simp)) (by simp) (hf.up hB2)) he hN
  have HBE := hide hbe
  clear h hf he hbe hB2
  go_enter Try.func13, Try.ntmps13
  go_wp2_with (go_at_call 29; refine HBE.out.mono ?_; rintro e w1 ⟨F, n, rfl, r1⟩; have R1 : Hid (BegR m w w1 F n) := r1.of (by repeat (first | exact Below.refl _ _ | assumption | refine Below.drew ?_ | refine Below.drewN ?_ _ | refine Below.allocT ?_ (Nat.le_refl _) _ | refine Below.setCell ?_ (by simp <;> omega) _ | refine Below.to ?_ (by assumption) (Nat.le_refl _))); clear r1)
  refine (grow_beg R1.out hN R1.out.op (by omega) HF.out (HOK.out.2 f (by simp))).mono ?_
  rintro e w2 ⟨g, F2, rfl, r2, r3, hg, r4⟩
  have R2 := hide r2
  have R4 := hide r4
  have R3 := hide r3
  have hn2 : n < F2.ks.length := Nat.lt_of_lt_of_le R1.out.lt r3.st.le
  clear r2 r3 r4
  go_wp2_with fail
  refine (and_beg (l := [n, g]) R1.out hN R2.out (by omega) (by simp) (by intro x hx; simp at hx; rcases hx with rfl | rfl <;> assumption)).mono ?_
  rintro e w3 ⟨x, F3, rfl, r5, r6, hx, r7⟩
  have R5 := hide r5
  have R7 := hide r7
  have hN3 : F3.N = m.opts.length := r5.st.N.trans R1.out.N
  have hp : 2 ^ (F3.N + 1) ≤ 2 ^ 13 := Nat.pow_le_pow_right (by omega) (by omega)
  have hB3 : Below w3.heap.size w3 (w3.alloc (.map #[] 0)) := (Below.refl _ _).alloc (Nat.le_refl _) _
  have hco := count_any F3 w3.heap.size (fun e => by have := r5.st.here.slt e; omega) (by omega) F3.N x 0 (w3.alloc (.map #[] 0)) (fun _ => none) 0 (r5.st.here.below hB3) hx (by omega) (by omega) (MapIs.made _ _ _ _ _) (fun n x h => by cases h) (by omega)
  rw [r5.st.p] at hco
  have HCO := hide hco
  have HN3 := hide hN3
  clear r5 r6 r7 hco hN3 hp hB3
  go_wp2_with fail
  refine HCO.out.mono ?_
  rintro e w4 ⟨m', cnt', rfl, r8⟩
  have R8 := hide r8
  clear r8
  go_wp2_with fail
  go_ret2
  refine ⟨?_, ?_⟩
  · have h1 : cntK F3.ks F3.N x 0 = (satM m fun v => evF1 v f).length := by
      unfold cntK
      rw [show List.replicate 0 false = ([] : List Bool) from rfl, satM_node (p := fun v => evF1 v f) HN3.out (fun v => by rw [R7.out v, List.all_cons, List.all_cons, List.all_nil, R4.out v, R3.out.st.ev R1.out.here.wf R1.out.lt, R1.out.ev v, Bool.and_true])]
    rw [h1]; rfl
  · have h2 := R5.out.low R1.out
    have h3 := R8.out.keep.below (B := w.heap.size) (by have := h2.size; simp; omega) (fun k hk => by rw [hk]; exact h2.size)
    exact (Below.allocT h2 (Nat.le_refl _) _).trans h3
end Go.Proofs.Ytmgfijadjclmpaa
/- The look at a model; copies of lists: walks. -/
namespace Go.Proofs.Ytmgfijadjclmpaa
open Go.RowKit
set_option linter.unusedVariables false
set_option linter.unusedSimpArgs false
theorem sl_boxT {w : World} {b B n t : Nat} {C : Array Value} {f : Nat → Nat → Value} (hb : w.heap[b]? = some (.cells C t (0, 0))) (hB : b < B) (h : ∀ i, i < n → C[i]? = some (f i 0)) : Sl w B 1 (.slice (some ⟨b, 0, none⟩) n n) n f :=
  ⟨_, b, 0, n, rfl, Nat.le_refl _, .inl ⟨rfl, hB⟩, fun i j hi hj => by
    obtain rfl : j = 0 := by omega
    rw [Nat.mul_one, Nat.add_zero, Nat.zero_add, cellOf hb]
    exact h i hi⟩
theorem ints_boxT {w : World} {b B t : Nat} {l : List Int} (hb : w.heap[b]? = some (.cells (l.map (Value.int .i64)).toArray t (0, 0))) (hB : b < B) : Ints w B (.slice (some ⟨b, 0, none⟩) l.length l.length) l :=
  sl_boxT hb hB fun i hi => by simp [hi]
theorem names_boxT {w : World} {b B t : Nat} {l : List ByteArray} (hb : w.heap[b]? = some (.cells (l.map Value.string).toArray t (0, 0))) (hB : b < B) : Names w B (.slice (some ⟨b, 0, none⟩) l.length l.length) l :=
  sl_boxT hb hB fun i hi => by simp [hi]
/-- The model of the example. -/
def exT : Mo := ⟨[⟨#[116, 111, 119]⟩, ⟨#[104, 101, 97, 116]⟩], [[-5, 0, 1]]⟩
theorem exT_sized : SizedM exT := ⟨by unfold maxLen exT; simp, fun x hx => by
  unfold exT at hx
  simp at hx
  rcases hx with rfl | rfl <;> (unfold maxLen; decide), ⟨by unfold maxLen exT; simp, fun f hf => by
  unfold exT at hf
  simp at hf
  rcases hf with rfl
  unfold maxLen; decide⟩⟩
theorem exT_err : exT.errF [[-1]] = 0 := by kernel_rfl
theorem exT_three : (satM exT fun v => evF1 v [-1]).length = 3 := by kernel_rfl
set_option maxRecDepth 100000 in
set_option maxHeartbeats 2000000 in
theorem counts_any (w : World) :
    Calls Try.prog 5 #[] w fun e w' => e = .returned (.bool true) ∧ Below w.heap.size w w' := by
  go_enter Try.func5, Try.ntmps5
  go_upto_region 2 with (go_at_call 13; generalize hw0 : World.alloc _ _ = w0; obtain ⟨h0, h1, h2, h3, hB4, hs4⟩ := alloc4 hw0; clear hw0; refine (Count_ok exT [-1] _ _ _ w0 exT_sized (by unfold maxLen; decide) ⟨names_boxT (l := exT.opts) (t := 9) h0 (by omega), fun i => .slice (some ⟨w.heap.size + 1, 0, none⟩) 3 3, sl_boxT h2 (by omega) ?_, ?_⟩ (ints_boxT (l := [-1]) h3 (by omega)) exT_err (by decide)).mono ?_)
  · intro i hi
    have hi2 : i < 1 := hi
    obtain rfl : i = 0 := by omega
    rfl
  · intro i hi
    have hi2 : i < 1 := hi
    obtain rfl : i = 0 := by omega
    exact ints_boxT (l := [-5, 0, 1]) h1 (by omega)
  · rw [exT_three]
    rintro e w2 ⟨rfl, hB2⟩
    have HB2 := hide (Below.to hB4 hB2 (Nat.le_refl _))
    clear h0 h1 h2 h3 hB4 hs4 hB2
    go_wp2
    go_ret
    exact ⟨rfl, HB2.out⟩
theorem infoFrame : (Try.prog.info? 40).map (fun i => (i.zero, i.size, i.bytes)) = some (some (.agg #[.int .i64 0, .int .i64 0, .int .i64 0, .int .i64 0, .int .i64 0]), 5, 40) := by kernel_rfl
theorem infoRelease : (Try.prog.info? 38).map (fun i => (i.zero, i.size, i.bytes)) = some (some (.agg #[.int .i64 0, .int .i64 0]), 2, 16) := by kernel_rfl
set_option maxRecDepth 100000 in
set_option maxHeartbeats 2000000 in
theorem ints_any (v : Value) (l : List Int) (w : World) (hm : l.length ≤ 1000) (h : Ints w w.heap.size v l) :
    Calls Try.prog 7 #[v] w fun e w' => ∃ u, e = .returned u ∧ Ints w' w'.heap.size u l ∧ Below w.heap.size w w' := by
  obtain ⟨i0, hi0, iz0, iz1, iz2⟩ := info_parts infoIntT
  obtain ⟨A, q, rfl⟩ := ints_formT h
  have HRD := hide (ints_readsT h)
  clear h
  go_enter Try.func7, Try.ntmps7
  go_wp2_with (at_builtin; refine wpList_append_any _ rfl (.tmp 3) (.tmp 4) _ rfl w.heap.size 3 i0 _ 1 8 Try.underlying24 hi0 iz0 iz1 iz2 rfl (by decide) _ 0 [] rfl (World.ownsRow_made w #[] 0 (Nat.le_refl _) (by unfold maxLen; omega) rfl) w.heap.size A l.length q (l.map (Value.int .i64)) rfl (HRD.out.alloc (Nat.le_refl _) _) (by intro u hu; simp at hu; obtain ⟨z, _, rfl⟩ := hu; rfl) (by unfold maxLen; omega) (by omega) (by simp) ?_; intro v1 w1 hown1 hg1 _; rw [Nat.zero_add, List.nil_append] at hown1; have HO := hide hown1; have HG := hide hg1; clear hown1 hg1)
  go_ret
  exact ⟨v1, rfl, ints_of_ownT HO.out, Below.grown (Below.allocT (Below.refl _ _) (Nat.le_refl _) _) HG.out (by simp) (fun j hj => by injection hj with hj; exact Nat.le_of_eq hj)⟩
end Go.Proofs.Ytmgfijadjclmpaa

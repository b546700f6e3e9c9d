/- Group D of this claim's texts: walks and plain laws. -/
import Derived.Test.YtohofcmikfkilaaRows
import Derived.Test.YtohofcmikfkilaaTCC
import Derived.Laws.ShiftsVarLaws
import Derived.Test.YtohofcmikfkilaaTCB
import Derived.WalkLawsBesides
import Derived.WalkSpells
import Derived.Deep.QuietTactic
/- The node of formulas that all have to hold: walk. -/
namespace Go.Proofs.Ytohofcmikfkilaa
open Go.RowKit
open Go.Maps (Keyed)
set_option linter.unusedVariables false
set_option linter.unusedSimpArgs false
/-- The slice v holds the formulas fs, all below block B. -/
def Forms (w : World) (B : Nat) (v : Value) (fs : List (List Int)) : Prop := ∃ fv : Nat → Value, Sl w B 1 v fs.length (fun i _ => fv i) ∧ ∀ i, i < fs.length → Ints w B (fv i) (fs.getD i [])
theorem Ints.below {w w' : World} {B : Nat} {v : Value} {f : List Int} (h : Ints w B v f) (hb : Below B w w') : Ints w' B v f := Sl.below h hb
theorem Ints.more {w : World} {B B' : Nat} {v : Value} {f : List Int} (h : Ints w B v f) (hB : B ≤ B') : Ints w B' v f := Sl.more h hB
theorem Forms.below {w w' : World} {B : Nat} {v : Value} {fs : List (List Int)} (h : Forms w B v fs) (hb : Below B w w') : Forms w' B v fs := by
  obtain ⟨fv, h1, h2⟩ := h
  exact ⟨fv, Sl.below h1 hb, fun i hi => Sl.below (h2 i hi) hb⟩
theorem Forms.more {w : World} {B B' : Nat} {v : Value} {fs : List (List Int)} (h : Forms w B v fs) (hB : B ≤ B') : Forms w B' v fs := by
  obtain ⟨fv, h1, h2⟩ := h
  exact ⟨fv, Sl.more h1 hB, fun i hi => Sl.more (h2 i hi) hB⟩
theorem allF_snoc (v : Nat → Bool) (l : List (List Int)) (f : List Int) : allF v (l ++ [f]) = (allF v l && evF1 v f) := by simp [allF]
theorem getD_mem {α : Type} {l : List α} {z : α} {k : Nat} (h : k < l.length) : l.getD k z ∈ l := by
  rw [List.getD_eq_getElem?_getD, List.getElem?_eq_getElem h]; exact List.getElem_mem _
theorem take_getD {α : Type} {l : List α} {z : α} {k : Nat} (h : k < l.length) : l.take (k + 1) = l.take k ++ [l.getD k z] := by
  rw [List.take_succ_eq_append_getElem h, List.getD_eq_getElem?_getD, List.getElem?_eq_getElem h]; rfl
set_option maxRecDepth 100000 in
set_option maxHeartbeats 1000000 in
theorem all_any (F : Fo) (fs : List (List Int)) (fv : Value) (w : World) (h : FoAt w F) (hB : F.base ≤ w.heap.size) (hv : ∀ f ∈ fs, validF F.N f = true) (hf : Forms w F.base fv fs) (hn : fs.length ≤ 1000) (hr : Room F (102 * fs.length)) :
    Calls Try.prog 74 #[.pointer (some ⟨F.p, 0, none⟩), fv] w
      fun e w' => ∃ m F', e = .returned (.int .i64 (m : Nat)) ∧ OpR (102 * fs.length) w F w' F' ∧ m < F'.ks.length ∧ ∀ v, ev F'.ks v m = allF v fs := by
  obtain ⟨fvs, ⟨A, b, off, cap, rfl, hnc, hA, hc⟩, hfs⟩ := hf
  have H := hide h
  have HV := hide hv
  have HR := hide hr
  have HC := hide hc
  have HA := hide hA
  have HFS := hide hfs
  have h2 := h.wf.two
  clear h hv hr hc hA hfs
  go_enter Try.func74, Try.ntmps74
  go_wp2
  go_loopw [5, 10] (fun n i wr => ∃ (k m : Nat) (F1 : Fo), k ≤ fs.length ∧ i = .int .i64 k ∧ n = .int .i64 m ∧ Hid (OpR (102 * k) w F wr F1) ∧ m < F1.ks.length ∧ Hid (∀ v, ev F1.ks v m = allF v (fs.take k))) (fun _ i _ => fs.length - (intOf i).toNat)
  case atStart => exact ⟨0, 1, F, Nat.zero_le _, rfl, rfl, OpR.refl H.out _, by omega, fun v => rfl⟩
  case round =>
    obtain ⟨k, m, F1, hk, rfl, rfl, hop, hm, hev⟩ := hrel
    by_cases hlt : k < fs.length
    · obtain ⟨rfl, hbb⟩ : A = some ⟨b, off, none⟩ ∧ b < F.base := by
        rcases HA.out with h | h
        · exact h
        · omega
      obtain ⟨f, hf⟩ : ∃ f, fs.getD k [] = f := ⟨_, rfl⟩
      have hfv : validF F.N f = true := HV.out f (by rw [← hf]; exact getD_mem hlt)
      have hbl := hop.out.st.below H.out hB
      have c0 : wr.cell? ⟨b, off + k, none⟩ = some (fvs k) := by
        have h1 := HC.out k 0 hlt (by omega)
        rw [Nat.mul_one, Nat.add_zero] at h1
        exact (hbl.cell (p := ⟨b, off + k, none⟩) hbb).trans h1
      have hin : Ints wr F.base (fvs k) f := by
        have := (HFS.out k hlt).below hbl
        rwa [hf] at this
      obtain ⟨Af, capf, hfe⟩ := Sl.form hin
      have hr1 : Room F1 102 := Room.step (k := 102 * k) (HR.out.mono (by omega)) hop.out
      have hl100 := (validF_pos hfv).2
      have hle0 := hop.out.st.keep.size
      have hgr := grow_any F1 f (fvs k) wr hop.out.st.here (by rw [hop.out.st.ba]; omega) (by rw [hop.out.st.N]; exact hfv) (by rw [hop.out.st.ba]; exact hin) (hr1.mono (by omega))
      rw [hop.out.st.p] at hgr
      rw [hfe] at hgr c0
      have HGR := hide hgr
      have HF := hide hf
      have HFV := hide hfv
      have HR1 := hide hr1
      clear hf hfv hbl hin hfe hr1 hgr
      go_wp2_with (go_at_call 61; refine HGR.out.mono ?_; rintro e w1 ⟨g, F2, rfl, r1, r2, r3⟩; have R1 := hide r1; have R3 := hide r3; clear r1 r3)
      have hle1 := R1.out.st.le
      have hnd : NodesAt (w1.alloc (.cells #[.int .i64 m, .int .i64 g] 3)) w1.heap.size [m, g] := heap_new _ _ _ rfl
      have hF2 : FoAt (w1.alloc (.cells #[.int .i64 m, .int .i64 g] 3)) F2 := R1.out.st.here.below ((Below.refl _ _).alloc (Nat.le_refl _) _)
      have hnd2 : ¬ SF F2 w1.heap.size := fun e => by have := R1.out.st.here.slt e; omega
      have hr2 : Room F2 2 := Room.step (k := f.length) (HR1.out.mono (by omega)) R1.out
      have han := and_any F2 w1.heap.size [m, g] _ hF2 (by intro n hn; simp at hn; rcases hn with rfl | rfl <;> omega) hnd hnd2 (by simp) hr2
      rw [R1.out.st.p, hop.out.st.p] at han
      have HAN := hide han
      clear hnd hF2 hnd2 hr2 han
      go_wp2_with (go_at_call 73; refine HAN.out.mono ?_; rintro e w2 ⟨x, F3, rfl, r1, r2', r3⟩; have R4 : Hid (OpR 2 w1 F2 w2 F3) := OpR.after_below R1.out.st.here ((Below.refl _ _).alloc (Nat.le_refl _) _) r1; have R6 := hide r3; clear r1 r3)
      go_roundw
      case rel =>
        refine ⟨k + 1, x, F3, by omega, by go_num, rfl, ((hop.out.trans R1.out).trans R4.out).mono (by omega), r2', fun v => ?_⟩
        rw [R6.out v, take_getD (z := []) hlt, allF_snoc, HF.out, List.all_cons, List.all_cons, List.all_nil, R3.out v, R1.out.st.ev hop.out.st.here.wf hm, hev.out v]
        simp
      case measure => simp [intOf]; omega
    · go_wp2
      go_ret
      obtain rfl : k = fs.length := by omega
      exact ⟨m, F1, rfl, hop.out, hm, fun v => by rw [hev.out v, List.take_length]⟩
end Go.Proofs.Ytohofcmikfkilaa
/- How many variants a node holds in: walk. -/
namespace Go.Proofs.Ytohofcmikfkilaa
open Go.RowKit
open Go.Maps (Keyed)
set_option linter.unusedVariables false
set_option linter.unusedSimpArgs false
def enN (n : Nat) : Value := .int .i64 n
theorem enN_inj (a b : Nat) (h : enN a = enN b) : a = b := by
  unfold enN at h
  injection h with _ h
  omega
theorem enKey {n : Nat} (h : I63 n) : ∃ l, keyOf Try.prog 3 (enN n) = some l := ⟨_, Maps.keyOf_int_mk Try.underlying3 (wf63 h)⟩
theorem inLaw : Keyed Try.prog 3 := Maps.int_keyed Try.underlying3
/-- What the map of counts holds is right. -/
def CntOk (ks : List Kn) (N : Nat) (m : Nat → Option Int) : Prop := ∀ n x, m n = some x → n < ks.length ∧ x = (cntK ks N n (topK ks n) : Nat)
structure CntR (F : Fo) (kb d : Nat) (w : World) (cnt : Nat) (w' : World) (m' : Nat → Option Int) (cnt' : Nat) : Prop where
  keep : Keeps (fun k => k = kb) w w'
  map : MapIs Try.prog w' 3 3 kb cnt' enN m'
  ok : CntOk F.ks F.N m'
  cnt : cnt' + 1 ≤ cnt + 2 ^ (d + 1)

theorem ret_int {k : IntKind} {a b : Int} (h : a = b) : Ending.returned (.int k a) = .returned (.int k b) := by rw [h]
theorem shl_cnt {N : Nat} {ks : List Kn} (hw : WF N ks) (hN : N ≤ 20) {n o k : Nat} (hn : n < ks.length) (hk : topK ks n = o + k) : wrap64 ((cntK ks N n (topK ks n) : Int) * 2 ^ min k 64) = (cntK ks N n o : Nat) ∧ wrap64 ((cntK ks N n (topK ks n) : Int) * 2 ^ k) = (cntK ks N n o : Nat) := by
  have h1 := cntK_lift hw hn k o hk.symm
  have h2 := cntK_le ks N n o
  have h3 := hw.top_le n hn
  have h4 : (2 : Nat) ^ (N - o) ≤ 2 ^ 20 := Nat.pow_le_pow_right (by omega) (by omega)
  have h5 : min k 64 = k := by omega
  rw [h5, h1]
  refine (fun h => ⟨h, h⟩) ?_
  have h6 : ((cntK ks N n (topK ks n) * 2 ^ k : Nat) : Int) = (cntK ks N n (topK ks n) : Int) * 2 ^ k := by simp
  rw [← h6, IntWalk.wrap64_in _ (by omega)]
set_option maxRecDepth 100000 in
theorem countZero_any (F : Fo) (kb o : Nat) (w : World) :
    Calls Try.prog 76 #[.pointer (some ⟨F.p, 0, none⟩), .int .i64 0, .int .i64 o, .map (some kb)] w
      fun e w' => e = .returned (.int .i64 0) ∧ w = w' := by
  go_enter Try.func76, Try.ntmps76
  go_wp2_with fail
  go_ret
  exact ⟨rfl, rfl⟩
set_option maxRecDepth 100000 in
set_option maxHeartbeats 2000000 in
theorem countHit_any (F : Fo) (kb : Nat) (hN : F.N ≤ 20) (d n o x : Nat) (w : World) (m : Nat → Option Int) (cnt : Nat) (h : FoAt w F) (hn : n < F.ks.length) (h0 : n ≠ 0) (ho : o ≤ topK F.ks n) (hm : MapIs Try.prog w 3 3 kb cnt enN m) (hx : m n = some ((cntK F.ks F.N n (topK F.ks n) : Nat) : Int)) :
    Calls Try.prog 76 #[.pointer (some ⟨F.p, 0, none⟩), .int .i64 n, .int .i64 o, .map (some kb)] w
      fun e w' => e = .returned (.int .i64 (cntK F.ks F.N n o : Nat)) ∧ w = w' := by
  have h01 : ((n : Int) == 0) = false := by simp; omega
  obtain ⟨kl, hkl⟩ := enKey (n := n) (by have := h.small; unfold I63; omega)
  have hlk : (Instr.lookup 112 (.map (some kb)) (.int .i64 n) true).run Try.prog w = .ok (.tuple #[.int .i64 ((m n).getD 0), .bool (m n).isSome]) w := hm.look inLaw Try.underlying112 Try.underlying3 (zInt w) hkl
  have hsm := h.small
  have hi0 : (0 : Int) ≤ (n : Int) := by omega
  have hi1 : (n : Int) < (F.ks.length : Int) := by omega
  have c1 := h.cellS
  obtain ⟨k0, k1, k2⟩ := h.knot hn
  rw [hx] at hlk
  simp only [Option.getD_some, Option.isSome_some] at hlk
  obtain ⟨k, hk⟩ : ∃ k, topK F.ks n = o + k := ⟨topK F.ks n - o, by omega⟩
  have hsub : (topK F.ks n : Int) - (o : Int) = (k : Int) := by omega
  have hk0 : (0 : Int) ≤ (k : Int) := by omega
  have hk20 : (k : Int) ≤ 1000 := by have := h.wf.top_le n hn; omega
  have HF := hide (shl_cnt h.wf hN hn hk)
  clear h hm hx hkl hk h0 hsm
  go_enter Try.func76, Try.ntmps76
  go_wp2_with fail
  go_ret
  exact ⟨ret_int HF.out.1, rfl⟩
set_option maxRecDepth 100000 in
set_option maxHeartbeats 2000000 in
theorem countOne_any (F : Fo) (kb : Nat) (hnb : ¬ SF F kb) (hN : F.N ≤ 20) (d o : Nat) (w : World) (m : Nat → Option Int) (cnt : Nat) (h : FoAt w F) (ho : o ≤ F.N) (hm : MapIs Try.prog w 3 3 kb cnt enN m) (hok : CntOk F.ks F.N m) (hc : cnt + 2 ^ (d + 1) ≤ 1073741824) (hx : m 1 = none) :
    Calls Try.prog 76 #[.pointer (some ⟨F.p, 0, none⟩), .int .i64 1, .int .i64 o, .map (some kb)] w
      fun e w' => ∃ m' cnt', e = .returned (.int .i64 (cntK F.ks F.N 1 o : Nat)) ∧ CntR F kb d w cnt w' m' cnt' := by
  have h2 := h.wf.two
  have ht1 := h.wf.top1
  obtain ⟨kl, hkl⟩ := enKey (n := 1) (by unfold I63; omega)
  have hlk : (Instr.lookup 112 (.map (some kb)) (.int .i64 1) true).run Try.prog w = .ok (.tuple #[.int .i64 ((m 1).getD 0), .bool (m 1).isSome]) w := hm.look inLaw Try.underlying112 Try.underlying3 (zInt w) hkl
  have hsm := h.small
  have hi1 : (1 : Int) < (F.ks.length : Int) := by omega
  have hi2 : 1 < F.ks.length := by omega
  have c1 := h.cellS
  obtain ⟨k0, k1, k2⟩ := h.knot (n := 1) (by omega)
  simp only [Nat.one_mul] at k0 k1 k2
  rw [hx] at hlk
  simp only [Option.getD_none, Option.isSome_none] at hlk
  obtain ⟨k, hk⟩ : ∃ k, topK F.ks 1 = o + k := ⟨topK F.ks 1 - o, by omega⟩
  have hsub : (topK F.ks 1 : Int) - (o : Int) = (k : Int) := by omega
  have hk0 : (0 : Int) ≤ (k : Int) := by omega
  have hk20 : (k : Int) ≤ 1000 := by omega
  have hone : cntK F.ks F.N 1 (topK F.ks 1) = 1 := by rw [ht1]; exact cntK_one
  have hfin := shl_cnt h.wf hN (show 1 < F.ks.length by omega) hk
  have hput := hone
  rw [hone] at hfin
  have HF := hide hfin
  have HM := hide hm
  have HOK := hide hok
  have HONE := hide hone
  have hp := pow_pos2 d
  have HC : Hid (cnt + 1 + 1 ≤ cnt + 2 ^ (d + 1)) := by show cnt + 1 + 1 ≤ _; rw [Nat.pow_succ]; omega
  have HKL := hide hkl
  have hcn : cnt < maxLen := by unfold maxLen; omega
  clear h hm hx hkl hk hsm hok hone hput hfin ht1
  go_enter Try.func76, Try.ntmps76
  go_wp2_with (at_mapUpdate; go_must (refine wpList_put _ rfl _ _ _ 112 rfl HM.out inLaw Try.underlying112 Try.underlying3 enN_inj hcn 1 ⟨_, HKL.out⟩ 1 (by decide) rfl rfl rfl ?_); intro w9 hm9 hg9; have HM9 := hide hm9; have HG9 := hide hg9; clear hm9 hg9)
  go_ret
  have hfo : wrap64 (2 ^ min k 64) = (cntK F.ks F.N 1 o : Nat) := by
    have h1 := HF.out.1
    simpa using h1
  exact ⟨_, _, ret_int hfo, ⟨Keeps.of_grown HG9.out (fun k hk => by injection hk with hk; exact hk.symm), HM9.out, fun n x hx => by
    unfold putM at hx
    split at hx
    · rename_i e
      injection hx with hx
      rw [e, HONE.out]
      exact ⟨hi2, hx.symm⟩
    · exact HOK.out n x hx, HC.out⟩⟩

set_option maxRecDepth 100000 in
set_option maxHeartbeats 4000000 in
theorem count_any (F : Fo) (kb : Nat) (hnb : ¬ SF F kb) (hN : F.N ≤ 20) : ∀ (d n o : Nat) (w : World) (m : Nat → Option Int) (cnt : Nat), FoAt w F → n < F.ks.length → F.N - topK F.ks n ≤ d → o ≤ topK F.ks n → MapIs Try.prog w 3 3 kb cnt enN m → CntOk F.ks F.N m → cnt + 2 ^ (d + 1) ≤ 1073741824 →
    Calls Try.prog 76 #[.pointer (some ⟨F.p, 0, none⟩), .int .i64 n, .int .i64 o, .map (some kb)] w
      fun e w' => ∃ m' cnt', e = .returned (.int .i64 (cntK F.ks F.N n o : Nat)) ∧ CntR F kb d w cnt w' m' cnt' := by
  intro d
  induction d with
  | zero =>
    intro n o w m cnt h hn hd ho hm hok hc
    by_cases h0 : n = 0
    · subst h0
      refine (countZero_any F kb o w).mono ?_
      rintro e w' ⟨rfl, rfl⟩
      exact ⟨m, cnt, by rw [cntK_zero]; rfl, ⟨Keeps.refl _ _, hm, hok, by omega⟩⟩
    · have h1 : n = 1 := by
        rcases Nat.lt_or_ge n 2 with h2 | h2
        · omega
        · have := h.wf.opt n h2 hn; omega
      subst h1
      rw [h.wf.top1] at ho
      cases hx : m 1 with
      | none => exact countOne_any F kb hnb hN 0 o w m cnt h ho hm hok hc hx
      | some x =>
        have h2 := (hok 1 x hx).2
        refine (countHit_any F kb hN 0 1 o 0 w m cnt h hn h0 (by rw [h.wf.top1]; exact ho) hm (by rw [hx, h2])).mono ?_
        rintro e w' ⟨rfl, rfl⟩
        exact ⟨m, cnt, rfl, ⟨Keeps.refl _ _, hm, hok, by omega⟩⟩
  | succ d ih =>
    intro n o w m cnt h hn hd ho hm hok hc
    by_cases h0 : n = 0
    · subst h0
      refine (countZero_any F kb o w).mono ?_
      rintro e w' ⟨rfl, rfl⟩
      have := pow_pos2 (d + 1 + 1)
      exact ⟨m, cnt, by rw [cntK_zero]; rfl, ⟨Keeps.refl _ _, hm, hok, by omega⟩⟩
    cases hx : m n with
    | some x =>
      have h2 := (hok n x hx).2
      refine (countHit_any F kb hN 0 n o 0 w m cnt h hn h0 ho hm (by rw [hx, h2])).mono ?_
      rintro e w' ⟨rfl, rfl⟩
      have := pow_pos2 (d + 1 + 1)
      exact ⟨m, cnt, rfl, ⟨Keeps.refl _ _, hm, hok, by omega⟩⟩
    | none =>
    by_cases h1 : n = 1
    · subst h1
      rw [h.wf.top1] at ho
      exact countOne_any F kb hnb hN (d + 1) o w m cnt h ho hm hok hc hx
    have h01 : ((n : Int) == 0) = false := by simp; omega
    have h02 : ((n : Int) != 1) = true := by simp; omega
    have hn2 : 2 ≤ n := by omega
    obtain ⟨kl, hkl⟩ := enKey (n := n) (by have := h.small; unfold I63; omega)
    have hlk : (Instr.lookup 112 (.map (some kb)) (.int .i64 n) true).run Try.prog w = .ok (.tuple #[.int .i64 ((m n).getD 0), .bool (m n).isSome]) w := hm.look inLaw Try.underlying112 Try.underlying3 (zInt w) hkl
    rw [hx] at hlk
    simp only [Option.getD_none, Option.isSome_none] at hlk
    have hsm := h.small
    have hi0 : (0 : Int) ≤ (n : Int) := by omega
    have hi1 : (n : Int) < (F.ks.length : Int) := by omega
    have c1 := h.cellS
    obtain ⟨k0, k1, k2⟩ := h.knot hn
    obtain ⟨l0, l1, l2, l3⟩ := h.lts
    have ll := h.wf.low n hn2 hn
    have lh := h.wf.high n hn2 hn
    have tl := h.wf.topl n hn2 hn
    have th := h.wf.toph n hn2 hn
    have tN := h.wf.opt n hn2 hn
    have hnode := cntK_node h.wf hn2 hn
    have b1 := cntK_le F.ks F.N (lowK F.ks n) (topK F.ks n + 1)
    have b2 := cntK_le F.ks F.N (highK F.ks n) (topK F.ks n + 1)
    have hp20 : (2 : Nat) ^ (F.N - (topK F.ks n + 1)) ≤ 2 ^ 20 := Nat.pow_le_pow_right (by omega) (by omega)
    obtain ⟨lo, hlo⟩ : ∃ lo, lowK F.ks n = lo := ⟨_, rfl⟩
    obtain ⟨hi, hhi⟩ : ∃ hi, highK F.ks n = hi := ⟨_, rfl⟩
    obtain ⟨t, ht⟩ : ∃ t, topK F.ks n = t := ⟨_, rfl⟩
    rw [hlo] at ll tl k1 hnode b1
    rw [hhi] at lh th k2 hnode b2
    obtain ⟨k, hk⟩ : ∃ k, topK F.ks n = o + k := ⟨topK F.ks n - o, by omega⟩
    have hfin := shl_cnt h.wf hN hn hk
    rw [ht] at k0 tl th tN hnode b1 b2 hd ho hk hp20 hfin
    have hdl : F.N - topK F.ks lo ≤ d := by omega
    have hdh : F.N - topK F.ks hi ≤ d := by omega
    obtain ⟨x, hxe⟩ : ∃ x, cntK F.ks F.N lo (t + 1) = x := ⟨_, rfl⟩
    obtain ⟨y, hye⟩ : ∃ y, cntK F.ks F.N hi (t + 1) = y := ⟨_, rfl⟩
    obtain ⟨z, hze⟩ : ∃ z, cntK F.ks F.N n t = z := ⟨_, rfl⟩
    rw [hxe] at b1
    rw [hye] at b2
    rw [hxe, hye, hze] at hnode
    rw [hze] at hfin
    have hsum : IntKind.i64.wrap ((x : Int) + (y : Int)) = (z : Int) := by rw [IntWalk.i64_in _ (by omega)]; omega
    have hz63 : (Lit.int .i64 (z : Int)).wf = true := wf63 (by unfold I63; omega)
    have hsub : (t : Int) - (o : Int) = (k : Int) := by omega
    have hk0 : (0 : Int) ≤ (k : Int) := by omega
    have hk20 : (k : Int) ≤ 1000 := by omega
    have ht1 : IntKind.i64.wrap ((t : Int) + 1) = (t : Int) + 1 := IntWalk.i64_in _ (by omega)
    have hcast : ((t + 1 : Nat) : Int) = (t : Int) + 1 := by omega
    have hpw : 2 ^ (d + 1 + 1) = 2 ^ (d + 1) + 2 ^ (d + 1) := by rw [Nat.pow_succ]; omega
    have hpp := pow_pos2 (d + 1)
    have hih1 := ih lo (t + 1) w.drew m cnt (h.same fun _ _ => rfl) (by omega) hdl (by omega) (hm.same rfl) hok (by omega)
    rw [hcast, hxe] at hih1
    have HIH2 : Hid (∀ (w1 : World) (m1 : Nat → Option Int) (cnt1 : Nat), CntR F kb d w.drew cnt w1 m1 cnt1 →
        Calls Try.prog 76 #[.pointer (some ⟨F.p, 0, none⟩), .int .i64 hi, .int .i64 ((t : Int) + 1), .map (some kb)] w1
          fun e w' => ∃ m' cnt', e = .returned (.int .i64 (y : Nat)) ∧ CntR F kb d w1 cnt1 w' m' cnt') := by
      intro w1 m1 cnt1 r
      have h1 := ih hi (t + 1) w1 m1 cnt1 ((h.same (w' := w.drew) fun _ _ => rfl).keeps r.keep (fun k hk e => hnb (e ▸ hk))) (by omega) hdh (by omega) r.map r.ok (by have := r.cnt; have := pow_pos2 (d + 1); omega)
      rw [hcast, hye] at h1
      exact h1
    have m1 : ¬ F.p = kb := fun e => hnb (.inl e.symm)
    have m2 : ¬ F.kb = kb := fun e => hnb (.inr (.inr (.inr e.symm)))
    have HIH1 := hide hih1
    have HF := hide hfin
    have HOK := hide hok
    have HKL := hide hkl
    have HT := hide (And.intro ht hze)
    have HC : Hid (cnt + 2 ^ (d + 1 + 1) ≤ 1073741824 ∧ 2 ^ (d + 1 + 1) = 2 ^ (d + 1) + 2 ^ (d + 1)) := ⟨hc, hpw⟩
    clear hih1 hfin hok hkl ht hze hm h hxe hye ih hlo hhi hnode hx hcast hpw hc hk
    go_enter Try.func76, Try.ntmps76
    go_upto_region 8 with (fail)
    refine wp_region_held_drew (S := (fun w' => Keeps (fun k => k = kb) w w')) (by kernel_rfl) ?_ (fun hHeld => ?_)
    · try dsimp only
      (repeat (first | (with_reducible exact Keeps.refl _ _) | exact hKeep.out | exact hKeepS.out _ | assumption | (with_reducible refine Keeps.drew ?_) | (with_reducible refine Keeps.drewN ?_ _) | (with_reducible refine Keeps.alloc ?_ _) | (with_reducible refine Keeps.setCell ?_ (.inl (by first | exact .inl rfl | exact .inr rfl)) _)))
    refine wpAnyH_take (i := 0) (v := ?v48_1) rfl (by kernel_rfl) (by kernel_rfl) (by kernel_rfl) (fun _ _ _ h => h) (Or.inl ⟨by rfl, ?y48_1⟩) (by assumption) ?r48_1
    case' y48_1 => (intro w hSw; (try dsimp only at hSw); (try have hlS := HLK.out _ hSw); have hcS := kcell1 hSw; clear hSw; go_simp; try with_reducible rfl)
    try simp only [Act.put, List.getElem_toArray, List.getElem_cons_succ, List.getElem_cons_zero, List.setIfInBounds_toArray, List.set_cons_zero, List.set_cons_succ]
    refine wpAnyH_take (i := 1) (v := ?v48_2) rfl (by kernel_rfl) (by kernel_rfl) (by kernel_rfl) (fun _ _ _ h => h) (Or.inl ⟨by rfl, ?y48_2⟩) (by assumption) ?r48_2
    case' y48_2 => (intro w hSw; (try dsimp only at hSw); (try have hlS := HLK.out _ hSw); have hcS := kcell1 hSw; clear hSw; go_simp; try with_reducible rfl)
    try simp only [Act.put, List.getElem_toArray, List.getElem_cons_succ, List.getElem_cons_zero, List.setIfInBounds_toArray, List.set_cons_zero, List.set_cons_succ]
    refine wpAnyH_take (i := 2) (v := ?v48_3) rfl (by kernel_rfl) (by kernel_rfl) (by kernel_rfl) (fun _ _ _ h => h) (Or.inl ⟨by rfl, ?y48_3⟩) (by assumption) ?r48_3
    case' y48_3 => (intro w hSw; (try dsimp only at hSw); (try have hlS := HLK.out _ hSw); have hcS := kcell1 hSw; clear hSw; go_simp; try with_reducible rfl)
    try simp only [Act.put, List.getElem_toArray, List.getElem_cons_succ, List.getElem_cons_zero, List.setIfInBounds_toArray, List.set_cons_zero, List.set_cons_succ]
    refine wpAnyH_take (i := 3) (v := ?v48_4) rfl (by kernel_rfl) (by kernel_rfl) (by kernel_rfl) (fun _ _ _ h => h) (Or.inl ⟨by rfl, ?y48_4⟩) (by assumption) ?r48_4
    case' y48_4 => (intro w hSw; (try dsimp only at hSw); (try have hlS := HLK.out _ hSw); have hcS := kcell1 hSw; clear hSw; go_simp; try with_reducible rfl)
    try simp only [Act.put, List.getElem_toArray, List.getElem_cons_succ, List.getElem_cons_zero, List.setIfInBounds_toArray, List.set_cons_zero, List.set_cons_succ]
    refine wpAnyH_take (i := 4) (v := ?v48_5) rfl (by kernel_rfl) (by kernel_rfl) (by kernel_rfl) (fun _ _ _ h => h) (Or.inl ⟨by rfl, ?y48_5⟩) (by assumption) ?r48_5
    case' y48_5 => (intro w hSw; (try dsimp only at hSw); (try have hlS := HLK.out _ hSw); have hcS := kcell1 hSw; clear hSw; go_simp; try with_reducible rfl)
    try simp only [Act.put, List.getElem_toArray, List.getElem_cons_succ, List.getElem_cons_zero, List.setIfInBounds_toArray, List.set_cons_zero, List.set_cons_succ]
    refine wpAnyH_take (i := 5) (v := ?v48_6) rfl (by kernel_rfl) (by kernel_rfl) (by kernel_rfl) (fun _ _ _ h => h) (Or.inl ⟨by rfl, ?y48_6⟩) (by assumption) ?r48_6
    case' y48_6 => (intro w hSw; (try dsimp only at hSw); (try have hlS := HLK.out _ hSw); have hcS := kcell1 hSw; clear hSw; go_simp; try with_reducible rfl)
    try simp only [Act.put, List.getElem_toArray, List.getElem_cons_succ, List.getElem_cons_zero, List.setIfInBounds_toArray, List.set_cons_zero, List.set_cons_succ]
    refine wpAnyH_take (i := 6) (v := ?v48_7) rfl (by kernel_rfl) (by kernel_rfl) (by kernel_rfl) (fun _ _ _ h => h) (Or.inl ⟨by rfl, ?y48_7⟩) (by assumption) ?r48_7
    case' y48_7 => (intro w hSw; (try dsimp only at hSw); (try have hlS := HLK.out _ hSw); have hcS := kcell1 hSw; clear hSw; go_simp; try with_reducible rfl)
    try simp only [Act.put, List.getElem_toArray, List.getElem_cons_succ, List.getElem_cons_zero, List.setIfInBounds_toArray, List.set_cons_zero, List.set_cons_succ]
    refine wpAnyH_take (i := 7) (v := ?v48_8) rfl (by kernel_rfl) (by kernel_rfl) (by kernel_rfl) (fun _ _ _ h => h) (Or.inl ⟨by rfl, ?y48_8⟩) (by assumption) ?r48_8
    case' y48_8 => (intro w hSw; (try dsimp only at hSw); (try have hlS := HLK.out _ hSw); have hcS := kcell1 hSw; clear hSw; go_simp; try with_reducible rfl)
    try simp only [Act.put, List.getElem_toArray, List.getElem_cons_succ, List.getElem_cons_zero, List.setIfInBounds_toArray, List.set_cons_zero, List.set_cons_succ]
    refine wpAnyH_take (i := 8) (v := ?v48_9) rfl (by kernel_rfl) (by kernel_rfl) (by kernel_rfl) (fun _ _ _ h => h) (Or.inl ⟨by rfl, ?y48_9⟩) (by assumption) ?r48_9
    case' y48_9 => (intro w hSw; (try dsimp only at hSw); (try have hlS := HLK.out _ hSw); have hcS := kcell1 hSw; clear hSw; go_simp; try with_reducible rfl)
    try simp only [Act.put, List.getElem_toArray, List.getElem_cons_succ, List.getElem_cons_zero, List.setIfInBounds_toArray, List.set_cons_zero, List.set_cons_succ]
    refine wpAnyH_take (i := 9) (v := ?v48_10) rfl (by kernel_rfl) (by kernel_rfl) (by kernel_rfl) (fun _ _ _ h => h) (Or.inl ⟨by rfl, ?y48_10⟩) (by assumption) ?r48_10
    case' y48_10 => (intro w hSw; (try dsimp only at hSw); (try have hlS := HLK.out _ hSw); have hcS := kcell1 hSw; clear hSw; go_simp; try with_reducible rfl)
    try simp only [Act.put, List.getElem_toArray, List.getElem_cons_succ, List.getElem_cons_zero, List.setIfInBounds_toArray, List.set_cons_zero, List.set_cons_succ]
    refine wpAnyH_take (i := 10) (v := ?v48_11) rfl (by kernel_rfl) (by kernel_rfl) (by kernel_rfl) (fun _ _ _ h => h) (Or.inl ⟨by rfl, ?y48_11⟩) (by assumption) ?r48_11
    case' y48_11 => (intro w hSw; (try dsimp only at hSw); (try have hlS := HLK.out _ hSw); have hcS := kcell1 hSw; clear hSw; go_simp; try with_reducible rfl)
    try simp only [Act.put, List.getElem_toArray, List.getElem_cons_succ, List.getElem_cons_zero, List.setIfInBounds_toArray, List.set_cons_zero, List.set_cons_succ]
    refine wpAnyH_take (i := 11) (v := ?v48_12) rfl (by kernel_rfl) (by kernel_rfl) (by kernel_rfl) (fun _ _ _ h => h) (Or.inl ⟨by rfl, ?y48_12⟩) (by assumption) ?r48_12
    case' y48_12 => (intro w hSw; (try dsimp only at hSw); (try have hlS := HLK.out _ hSw); have hcS := kcell1 hSw; clear hSw; go_simp; try with_reducible rfl)
    try simp only [Act.put, List.getElem_toArray, List.getElem_cons_succ, List.getElem_cons_zero, List.setIfInBounds_toArray, List.set_cons_zero, List.set_cons_succ]
    refine wpAnyH_take (i := 13) (v := ?v48_13) rfl (by kernel_rfl) (by kernel_rfl) (by kernel_rfl) (fun _ _ _ h => h) (Or.inl ⟨by rfl, ?y48_13⟩) (by assumption) ?r48_13
    case' y48_13 => (intro w hSw; (try dsimp only at hSw); (try have hlS := HLK.out _ hSw); have hcS := kcell1 hSw; clear hSw; go_simp; try with_reducible rfl)
    try simp only [Act.put, List.getElem_toArray, List.getElem_cons_succ, List.getElem_cons_zero, List.setIfInBounds_toArray, List.set_cons_zero, List.set_cons_succ]
    refine wpAnyH_take (i := 14) (v := ?v48_14) rfl (by kernel_rfl) (by kernel_rfl) (by kernel_rfl) (fun _ _ _ h => h) (Or.inl ⟨by rfl, ?y48_14⟩) (by assumption) ?r48_14
    case' y48_14 => (intro w hSw; (try dsimp only at hSw); (try have hlS := HLK.out _ hSw); have hcS := kcell1 hSw; clear hSw; go_simp; try with_reducible rfl)
    try simp only [Act.put, List.getElem_toArray, List.getElem_cons_succ, List.getElem_cons_zero, List.setIfInBounds_toArray, List.set_cons_zero, List.set_cons_succ]
    refine wpAnyH_take (i := 15) (v := ?v48_15) rfl (by kernel_rfl) (by kernel_rfl) (by kernel_rfl) (fun _ _ _ h => h) (Or.inl ⟨by rfl, ?y48_15⟩) (by assumption) ?r48_15
    case' y48_15 => (intro w hSw; (try dsimp only at hSw); (try have hlS := HLK.out _ hSw); have hcS := kcell1 hSw; clear hSw; go_simp; try with_reducible rfl)
    try simp only [Act.put, List.getElem_toArray, List.getElem_cons_succ, List.getElem_cons_zero, List.setIfInBounds_toArray, List.set_cons_zero, List.set_cons_succ]
    refine wpAnyH_take (i := 16) (v := ?v48_16) rfl (by kernel_rfl) (by kernel_rfl) (by kernel_rfl) (fun _ _ _ h => h) (Or.inl ⟨by rfl, ?y48_16⟩) (by assumption) ?r48_16
    case' y48_16 => (intro w hSw; (try dsimp only at hSw); (try have hlS := HLK.out _ hSw); have hcS := kcell1 hSw; clear hSw; go_simp; try with_reducible rfl)
    try simp only [Act.put, List.getElem_toArray, List.getElem_cons_succ, List.getElem_cons_zero, List.setIfInBounds_toArray, List.set_cons_zero, List.set_cons_succ]
    refine wpAnyH_take (i := 17) (v := ?v48_17) rfl (by kernel_rfl) (by kernel_rfl) (by kernel_rfl) (fun _ _ _ h => h) (Or.inl ⟨by rfl, ?y48_17⟩) (by assumption) ?r48_17
    case' y48_17 => (intro w hSw; (try dsimp only at hSw); (try have hlS := HLK.out _ hSw); have hcS := kcell1 hSw; clear hSw; go_simp; try with_reducible rfl)
    try simp only [Act.put, List.getElem_toArray, List.getElem_cons_succ, List.getElem_cons_zero, List.setIfInBounds_toArray, List.set_cons_zero, List.set_cons_succ]
    refine wpAnyH_take (i := 18) (v := ?v48_18) rfl (by kernel_rfl) (by kernel_rfl) (by kernel_rfl) (fun _ _ _ h => h) (Or.inl ⟨by rfl, ?y48_18⟩) (by assumption) ?r48_18
    case' y48_18 => (intro w hSw; (try dsimp only at hSw); (try have hlS := HLK.out _ hSw); have hcS := kcell1 hSw; clear hSw; go_simp; try with_reducible rfl)
    try simp only [Act.put, List.getElem_toArray, List.getElem_cons_succ, List.getElem_cons_zero, List.setIfInBounds_toArray, List.set_cons_zero, List.set_cons_succ]
    refine wpAnyH_take (i := 19) (v := ?v48_19) rfl (by kernel_rfl) (by kernel_rfl) (by kernel_rfl) (fun _ _ _ h => h) (Or.inl ⟨by rfl, ?y48_19⟩) (by assumption) ?r48_19
    case' y48_19 => (intro w hSw; (try dsimp only at hSw); (try have hlS := HLK.out _ hSw); have hcS := kcell1 hSw; clear hSw; go_simp; try with_reducible rfl)
    try simp only [Act.put, List.getElem_toArray, List.getElem_cons_succ, List.getElem_cons_zero, List.setIfInBounds_toArray, List.set_cons_zero, List.set_cons_succ]
    refine wpAnyH_take (i := 20) (v := ?v48_20) rfl (by kernel_rfl) (by kernel_rfl) (by kernel_rfl) (fun _ _ _ h => h) (Or.inl ⟨by rfl, ?y48_20⟩) (by assumption) ?r48_20
    case' y48_20 => (intro w hSw; (try dsimp only at hSw); (try have hlS := HLK.out _ hSw); have hcS := kcell1 hSw; clear hSw; go_simp; try with_reducible rfl)
    try simp only [Act.put, List.getElem_toArray, List.getElem_cons_succ, List.getElem_cons_zero, List.setIfInBounds_toArray, List.set_cons_zero, List.set_cons_succ]
    refine wpAnyH_take (i := 21) (v := ?v48_21) rfl (by kernel_rfl) (by kernel_rfl) (by kernel_rfl) (fun _ _ _ h => h) (Or.inl ⟨by rfl, ?y48_21⟩) (by assumption) ?r48_21
    case' y48_21 => (intro w hSw; (try dsimp only at hSw); (try have hlS := HLK.out _ hSw); have hcS := kcell1 hSw; clear hSw; go_simp; try with_reducible rfl)
    try simp only [Act.put, List.getElem_toArray, List.getElem_cons_succ, List.getElem_cons_zero, List.setIfInBounds_toArray, List.set_cons_zero, List.set_cons_succ]
    refine wpAnyH_take (i := 22) (v := ?v48_22) rfl (by kernel_rfl) (by kernel_rfl) (by kernel_rfl) (fun _ _ _ h => h) (Or.inl ⟨by rfl, ?y48_22⟩) (by assumption) ?r48_22
    case' y48_22 => (intro w hSw; (try dsimp only at hSw); (try have hlS := HLK.out _ hSw); have hcS := kcell1 hSw; clear hSw; go_simp; try with_reducible rfl)
    try simp only [Act.put, List.getElem_toArray, List.getElem_cons_succ, List.getElem_cons_zero, List.setIfInBounds_toArray, List.set_cons_zero, List.set_cons_succ]
    refine wpAnyH_take (i := 23) (v := ?v48_23) rfl (by kernel_rfl) (by kernel_rfl) (by kernel_rfl) (fun _ _ _ h => h) (Or.inl ⟨by rfl, ?y48_23⟩) (by assumption) ?r48_23
    case' y48_23 => (intro w hSw; (try dsimp only at hSw); (try have hlS := HLK.out _ hSw); have hcS := kcell1 hSw; clear hSw; go_simp; try with_reducible rfl)
    try simp only [Act.put, List.getElem_toArray, List.getElem_cons_succ, List.getElem_cons_zero, List.setIfInBounds_toArray, List.set_cons_zero, List.set_cons_succ]
    refine wpAnyH_take (i := 24) (v := ?v48_24) rfl (by kernel_rfl) (by kernel_rfl) (by kernel_rfl) (fun _ _ _ h => h) (Or.inl ⟨by rfl, ?y48_24⟩) (by assumption) ?r48_24
    case' y48_24 => (intro w hSw; (try dsimp only at hSw); (try have hlS := HLK.out _ hSw); have hcS := kcell1 hSw; clear hSw; go_simp; try with_reducible rfl)
    try simp only [Act.put, List.getElem_toArray, List.getElem_cons_succ, List.getElem_cons_zero, List.setIfInBounds_toArray, List.set_cons_zero, List.set_cons_succ]
    refine wpAnyH_ready (rs := [12]) (by kernel_rfl) (by simp) ?_
    refine (AllReadyH.cons rfl (fun K hK => ?_) AllReadyH.nil)
    go_simp
    (first | ((with_reducible refine HIH1.out.mono ?_); rintro e w1 ⟨m1', cnt1, rfl, r1⟩; have R1 := hide r1; have hKeep : Hid (Keeps (fun k => k = kb) w w1) := ⟨r1.keep.os, r1.keep.tape, r1.keep.output, r1.keep.size, r1.keep.block⟩; clear r1) | ((with_reducible refine (HIH2.out _ _ _ R1.out).mono ?_); rintro e w2 ⟨m2', cnt2, rfl, r2⟩; have R2 := hide r2; have hKeep2 : Hid (Keeps (fun k => k = kb) w w2) := hKeep.out.trans r2.keep (fun _ _ h => h); clear hKeep; have hKeep := hKeep2; clear r2 hKeep2))
    (try dsimp only)
    refine hK.out _ _ ?_ (fun hNext => ?_)
    · try dsimp only
      (repeat (first | (with_reducible exact Keeps.refl _ _) | exact hKeep.out | exact hKeepS.out _ | assumption | (with_reducible refine Keeps.drew ?_) | (with_reducible refine Keeps.drewN ?_ _) | (with_reducible refine Keeps.alloc ?_ _) | (with_reducible refine Keeps.setCell ?_ (.inl (by first | exact .inl rfl | exact .inr rfl)) _)))
    clear hK K hHeld
    have hHeld := hNext
    clear hNext
    (try dsimp only at hHeld)
    try simp only [Act.put, List.getElem_toArray, List.getElem_cons_succ, List.getElem_cons_zero, List.setIfInBounds_toArray, List.set_cons_zero, List.set_cons_succ]
    refine wpAnyH_ready (rs := [25]) (by kernel_rfl) (by simp) ?_
    refine (AllReadyH.cons rfl (fun K hK => ?_) AllReadyH.nil)
    go_simp
    (first | ((with_reducible refine HIH1.out.mono ?_); rintro e w1 ⟨m1', cnt1, rfl, r1⟩; have R1 := hide r1; have hKeep : Hid (Keeps (fun k => k = kb) w w1) := ⟨r1.keep.os, r1.keep.tape, r1.keep.output, r1.keep.size, r1.keep.block⟩; clear r1) | ((with_reducible refine (HIH2.out _ _ _ R1.out).mono ?_); rintro e w2 ⟨m2', cnt2, rfl, r2⟩; have R2 := hide r2; have hKeep2 : Hid (Keeps (fun k => k = kb) w w2) := hKeep.out.trans r2.keep (fun _ _ h => h); clear hKeep; have hKeep := hKeep2; clear r2 hKeep2))
    (try dsimp only)
    refine hK.out _ _ ?_ (fun hNext => ?_)
    · try dsimp only
      (repeat (first | (with_reducible exact Keeps.refl _ _) | exact hKeep.out | exact hKeepS.out _ | assumption | (with_reducible refine Keeps.drew ?_) | (with_reducible refine Keeps.drewN ?_ _) | (with_reducible refine Keeps.alloc ?_ _) | (with_reducible refine Keeps.setCell ?_ (.inl (by first | exact .inl rfl | exact .inr rfl)) _)))
    clear hK K hHeld
    have hHeld := hNext
    clear hNext
    (try dsimp only at hHeld)
    try simp only [Act.put, List.getElem_toArray, List.getElem_cons_succ, List.getElem_cons_zero, List.setIfInBounds_toArray, List.set_cons_zero, List.set_cons_succ]
    refine wpAnyH_take (i := 26) (v := ?v48_27) rfl (by kernel_rfl) (by kernel_rfl) (by kernel_rfl) (fun _ _ _ h => h) (Or.inl ⟨by rfl, ?y48_27⟩) (by assumption) ?r48_27
    case' y48_27 => (intro w hSw; (try dsimp only at hSw); (try have hlS := HLK.out _ hSw); have hcS := kcell1 hSw; clear hSw; go_simp; try with_reducible rfl)
    try simp only [Act.put, List.getElem_toArray, List.getElem_cons_succ, List.getElem_cons_zero, List.setIfInBounds_toArray, List.set_cons_zero, List.set_cons_succ]
    refine wpAnyH_take (i := 27) (v := ?v48_28) rfl (by kernel_rfl) (by kernel_rfl) (by kernel_rfl) (fun _ _ _ h => h) (Or.inl ⟨by rfl, ?y48_28⟩) (by assumption) ?r48_28
    case' y48_28 => (intro w hSw; (try dsimp only at hSw); (try have hlS := HLK.out _ hSw); have hcS := kcell1 hSw; clear hSw; go_simp; try with_reducible rfl)
    try simp only [Act.put, List.getElem_toArray, List.getElem_cons_succ, List.getElem_cons_zero, List.setIfInBounds_toArray, List.set_cons_zero, List.set_cons_succ]
    refine wpAnyH_done (by kernel_rfl) ?_ _
    have hcn : cnt2 < maxLen := by
      have h1 := R1.out.cnt
      have h2 := R2.out.cnt
      have h3 := HC.out
      unfold maxLen; omega
    go_wp2_with (at_mapUpdate; go_must (refine wpList_put _ rfl _ _ _ 112 rfl R2.out.map inLaw Try.underlying112 Try.underlying3 enN_inj hcn n ⟨_, HKL.out⟩ (z : Int) hz63 rfl rfl rfl ?_); intro w9 hm9 hg9; have HM9 := hide hm9; have HG9 := hide hg9; clear hm9 hg9)
    go_ret
    refine ⟨_, _, ret_int HF.out.2, ⟨hKeep.out.trans (Keeps.of_grown HG9.out (fun k hk => by injection hk with hk; exact hk.symm)) (fun _ _ h => h), HM9.out, fun n' x' hx' => ?_, ?_⟩⟩
    · unfold putM at hx'
      split at hx'
      · rename_i e
        injection hx' with hx'
        rw [e, HT.out.1, HT.out.2]
        exact ⟨hn, hx'.symm⟩
      · exact R2.out.ok n' x' hx'
    · have h1 := R1.out.cnt
      have h2 := R2.out.cnt
      have h3 := HC.out.2
      omega
end Go.Proofs.Ytohofcmikfkilaa
/- Names: walks. -/
namespace Go.Proofs.Ytohofcmikfkilaa
open Go.RowKit
set_option linter.unusedVariables false
set_option linter.unusedSimpArgs false
theorem getD_str (s : ByteArray) (k : Nat) (h : k < s.size) : s.data.toList.getD k 0 = s[k] := by
  have : k < s.data.size := h
  simp only [List.getD_eq_getElem?_getD, Array.getElem?_toList, Array.getElem?_eq_getElem this]
  rfl
theorem alN_of {c : UInt8} (h : (97 ≤ (c.toNat : Int) ∧ (c.toNat : Int) ≤ 122) ∨ (48 ≤ (c.toNat : Int) ∧ (c.toNat : Int) ≤ 57)) : alN c = true := by
  unfold alN
  simp only [Bool.or_eq_true, Bool.and_eq_true, decide_eq_true_eq]
  omega
theorem alN_not {c : UInt8} (h : ¬ ((97 ≤ (c.toNat : Int) ∧ (c.toNat : Int) ≤ 122) ∨ (48 ≤ (c.toNat : Int) ∧ (c.toNat : Int) ≤ 57))) : alN c = false := by
  have : ¬ alN c = true := by
    unfold alN
    simp only [Bool.or_eq_true, Bool.and_eq_true, decide_eq_true_eq]
    omega
  simpa using this
set_option maxRecDepth 100000 in
set_option maxHeartbeats 1000000 in
theorem word_any (s : ByteArray) (w : World) (hs : s.size ≤ maxLen) :
    Calls Try.prog 100 #[.string s] w fun e w' => e = .returned (.int .i64 (wordN s.data.toList : Nat)) ∧ w = w' := by
  unfold maxLen at hs
  go_enter Try.func100, Try.ntmps100
  go_wp2
  go_loop [7] (fun i => ∃ k : Nat, k ≤ s.size ∧ i = .int .i64 k ∧ Hid (∀ j, j < k → alN (s.data.toList.getD j 0) = true)) (fun i => s.size - (intOf i).toNat)
  case atStart => exact ⟨0, Nat.zero_le _, rfl, fun j hj => by omega⟩
  case round =>
    obtain ⟨k, hk, rfl, hall⟩ := hrel
    by_cases hlt : k < s.size
    · have hgd := getD_str s k hlt
      have hyes : alN s[k] = true → Hid (∀ j, j < k + 1 → alN (s.data.toList.getD j 0) = true) := fun h j hj => by
        rcases Nat.lt_or_ge j k with h1 | h1
        · exact hall.out j h1
        · rw [show j = k from by omega, hgd]; exact h
      have hno : alN s[k] = false → wordN s.data.toList = k := fun h => wordN_at _ k (by simpa using hlt) hall.out (by rw [hgd]; exact h)
      have HY := hide hyes
      have HN := hide hno
      clear hgd hyes hno
      by_cases hc : (97 ≤ (s[k].toNat : Int) ∧ (s[k].toNat : Int) ≤ 122) ∨ (48 ≤ (s[k].toNat : Int) ∧ (s[k].toNat : Int) ≤ 57)
      · have HC := hide (alN_of hc)
        rcases hc with ⟨h1, h2⟩ | ⟨h1, h2⟩
        · have h3 : ¬ (s[k].toNat : Int) < 97 := by omega
          have h4 : ¬ (122 : Int) < (s[k].toNat : Int) := by omega
          go_wp2
          go_round
          case rel => exact ⟨k + 1, by omega, by go_num, HY.out HC.out⟩
          case measure => simp [intOf]; omega
        · have h3 : (s[k].toNat : Int) < 97 := by omega
          have h4 : ¬ (s[k].toNat : Int) < 48 := by omega
          have h5 : ¬ (57 : Int) < (s[k].toNat : Int) := by omega
          go_wp2
          go_round
          case rel => exact ⟨k + 1, by omega, by go_num, HY.out HC.out⟩
          case measure => simp [intOf]; omega
      · have HC := hide (alN_not hc)
        by_cases h1 : (s[k].toNat : Int) < 97
        · by_cases h2 : (s[k].toNat : Int) < 48
          · clear hc
            go_wp2
            go_ret
            exact ⟨by rw [HN.out HC.out]; rfl, rfl⟩
          · have h3 : (57 : Int) < (s[k].toNat : Int) := by omega
            clear hc
            go_wp2
            go_ret
            exact ⟨by rw [HN.out HC.out]; rfl, rfl⟩
        · have h2 : (122 : Int) < (s[k].toNat : Int) := by omega
          have h3 : ¬ (s[k].toNat : Int) < 48 := by omega
          have h4 : (57 : Int) < (s[k].toNat : Int) := by omega
          clear hc
          go_wp2
          go_ret
          exact ⟨by rw [HN.out HC.out]; rfl, rfl⟩
    · have : k = s.size := by omega
      subst this
      go_wp2
      go_ret
      exact ⟨by rw [wordN_all _ (by simpa using hall.out)]; simp, rfl⟩
theorem smN_of {c : UInt8} (h1 : 97 ≤ (c.toNat : Int)) (h2 : (c.toNat : Int) ≤ 122) : smN c = true := by
  unfold smN
  simp only [Bool.and_eq_true, decide_eq_true_eq]
  omega
theorem smN_not {c : UInt8} (h : (c.toNat : Int) < 97 ∨ 122 < (c.toNat : Int)) : smN c = false := by
  have : ¬ smN c = true := by
    unfold smN
    simp only [Bool.and_eq_true, decide_eq_true_eq]
    omega
  simpa using this
theorem ret_bool {a b : Bool} (h : a = b) : Ending.returned (.bool a) = .returned (.bool b) := by rw [h]
theorem str_ne {s : ByteArray} {l : List UInt8} (h : s.data.toList ≠ l) : (s.toList == l) = false ∧ ¬ s.toList = l := by
  rw [← ByteArray.toList_eq] at h
  exact ⟨by simpa using h, h⟩
set_option maxRecDepth 100000 in
set_option maxHeartbeats 1000000 in
theorem named_any (s : ByteArray) (w : World) (hs : s.size ≤ maxLen) :
    Calls Try.prog 67 #[.string s] w fun e w' => e = .returned (.bool (namedB s.data.toList)) ∧ w = w' := by
  have hl : s.data.toList.length = s.size := by simp
  by_cases h1 : s.size < 1
  · have hf : namedB s.data.toList = false := by
      unfold namedB; rw [hl]; simp; omega
    have HF := hide hf
    have h2 : (s.size : Int) < 1 := by omega
    clear hf hl h1
    go_enter Try.func67, Try.ntmps67
    go_wp2
    go_ret
    exact ⟨ret_bool HF.out.symm, rfl⟩
  by_cases h2 : 8 < s.size
  · have hf : namedB s.data.toList = false := by
      unfold namedB; rw [hl]; simp; omega
    have HF := hide hf
    have h3 : (8 : Int) < (s.size : Int) := by omega
    have h4 : ¬ (s.size : Int) < 1 := by omega
    clear hf hl h1 h2
    go_enter Try.func67, Try.ntmps67
    go_wp2
    go_ret
    exact ⟨ret_bool HF.out.symm, rfl⟩
  have h3 : ¬ (s.size : Int) < 1 := by omega
  have h4 : ¬ (8 : Int) < (s.size : Int) := by omega
  have h0 : 0 < s.size := by omega
  have hg := getD_str s 0 h0
  by_cases hsm : smN s[0] = true
  · have hb : 97 ≤ (s[0].toNat : Int) ∧ (s[0].toNat : Int) ≤ 122 := by
      unfold smN at hsm
      simp only [Bool.and_eq_true, decide_eq_true_eq] at hsm
      omega
    obtain ⟨hb1, hb2⟩ := hb
    have hb3 : ¬ (s[0].toNat : Int) < 97 := by omega
    have hb4 : ¬ (122 : Int) < (s[0].toNat : Int) := by omega
    by_cases hy : s.data.toList = [121, 101, 115]
    · have hf : namedB s.data.toList = false := by unfold namedB; rw [hy]; rfl
      have HF := hide hf
      have hse : s = ⟨#[121, 101, 115]⟩ := by
        obtain ⟨d⟩ := s
        congr 1
        exact Array.toList_inj.1 hy
      subst hse
      clear hf hy hl hg hsm
      go_enter Try.func67, Try.ntmps67
      go_wp2
      go_ret
      exact ⟨ret_bool HF.out.symm, rfl⟩
    by_cases hn : s.data.toList = [110, 111]
    · have hf : namedB s.data.toList = false := by unfold namedB; rw [hn]; rfl
      have HF := hide hf
      have hse : s = ⟨#[110, 111]⟩ := by
        obtain ⟨d⟩ := s
        congr 1
        exact Array.toList_inj.1 hn
      subst hse
      clear hf hy hn hl hg hsm
      go_enter Try.func67, Try.ntmps67
      go_wp2
      go_ret
      exact ⟨ret_bool HF.out.symm, rfl⟩
    have hf : namedB s.data.toList = decide ((wordN s.data.toList : Int) = (s.size : Int)) := by
      unfold namedB
      rw [hl, hg, hsm]
      have e1 : decide (1 ≤ s.size) = true := by simp; omega
      have e2 : decide (s.size ≤ 8) = true := by simp; omega
      have e3 : decide (s.data.toList ≠ [121, 101, 115]) = true := by simpa using hy
      have e4 : decide (s.data.toList ≠ [110, 111]) = true := by simpa using hn
      rw [e1, e2, e3, e4]
      simp only [Bool.and_self, Bool.true_and]
      congr 1
      exact propext ⟨fun h => by omega, fun h => by omega⟩
    have HF := hide hf
    obtain ⟨k1, _⟩ := str_ne hy
    obtain ⟨k2, _⟩ := str_ne hn
    clear hf hy hn hl hg hsm
    go_enter Try.func67, Try.ntmps67
    go_wp2_with (go_at_call 100; refine (word_any s _ hs).mono ?_; rintro e w1 ⟨rfl, rfl⟩)
    go_ret
    exact ⟨ret_bool (by rw [HF.out]; rfl), rfl⟩
  · have hf : namedB s.data.toList = false := by
      unfold namedB; rw [hg]
      have : smN s[0] = false := by simpa using hsm
      rw [this]; simp
    have HF := hide hf
    have hb : (s[0].toNat : Int) < 97 ∨ ¬ (s[0].toNat : Int) < 97 ∧ 122 < (s[0].toNat : Int) := by
      unfold smN at hsm
      simp only [Bool.and_eq_true, decide_eq_true_eq] at hsm
      omega
    clear hf hl hg hsm
    rcases hb with hb | ⟨hb, hb2⟩
    · go_enter Try.func67, Try.ntmps67
      go_wp2
      go_ret
      exact ⟨ret_bool HF.out.symm, rfl⟩
    · go_enter Try.func67, Try.ntmps67
      go_wp2
      go_ret
      exact ⟨ret_bool HF.out.symm, rfl⟩
/-- The slice v holds the texts ns, below block B. -/
def Names (w : World) (B : Nat) (v : Value) (ns : List ByteArray) : Prop := Sl w B 1 v ns.length (fun i _ => .string (ns.getD i ByteArray.empty))
theorem Names.below {w w' : World} {B : Nat} {v : Value} {f : List ByteArray} (h : Names w B v f) (hb : Below B w w') : Names w' B v f := Sl.below h hb
theorem Names.more {w : World} {B B' : Nat} {v : Value} {f : List ByteArray} (h : Names w B v f) (hB : B ≤ B') : Names w B' v f := Sl.more h hB
theorem Names.take {w : World} {B : Nat} {A : Option Addr} {n cap : Nat} {f : List ByteArray} (h : Names w B (.slice A n cap) f) {k : Nat} (hk : k ≤ f.length) : Names w B (.slice A k cap) (f.take k) := by
  obtain ⟨A', b, off, cap', h1, h2, h3, h4⟩ := h
  injection h1 with e1 e2 e3
  subst e1 e3
  have hl : (f.take k).length = k := by simp; omega
  refine ⟨A, b, off, cap, by rw [hl], by omega, ?_, fun i j hi hj => ?_⟩
  · rcases h3 with h3 | h3
    · exact .inl h3
    · exact .inr (by omega)
  · rw [h4 i j (by omega) hj]
    congr 2
    rw [hl] at hi
    simp [List.getD_eq_getElem?_getD, hi]
set_option maxRecDepth 100000 in
theorem indexS_any (ns : List ByteArray) (s : ByteArray) (v : Value) (B : Nat) (w : World) (hm : ns.length ≤ maxLen) (h : Names w B v ns) :
    Calls Try.prog 101 #[v, .string s] w fun e w' => e = .returned (.int .i64 (idxI (fun x => x.toList == s.toList) ns)) ∧ w = w' := by
  unfold maxLen at hm
  obtain ⟨A, b, off, cap, rfl, hnc, hA, hc⟩ := h
  have HC := hide hc
  have HA := hide hA
  clear hc hA
  go_enter Try.func101, Try.ntmps101
  go_wp2
  go_loop [8] (fun i => ∃ k : Nat, k ≤ ns.length ∧ i = .int .i64 k ∧ Hid (∀ j, j < k → ((ns.getD j ByteArray.empty).toList == s.toList) = false)) (fun i => ns.length - (intOf i).toNat)
  case atStart => exact ⟨0, Nat.zero_le _, rfl, fun j hj => by omega⟩
  case round =>
    obtain ⟨k, hk, rfl, hall⟩ := hrel
    by_cases hlt : k < ns.length
    · obtain ⟨rfl, hbb⟩ : A = some ⟨b, off, none⟩ ∧ b < B := by
        rcases HA.out with h | h
        · exact h
        · omega
      obtain ⟨x, hx⟩ : ∃ x, ns.getD k ByteArray.empty = x := ⟨_, rfl⟩
      have c0 : w.cell? ⟨b, off + k, none⟩ = some (.string x) := by
        have h1 := HC.out k 0 hlt (by omega)
        rw [Nat.mul_one, Nat.add_zero, hx] at h1
        exact h1
      have HX := hide hx
      clear hx
      by_cases he : x.toList = s.toList
      · have he1 : (s.toList == x.toList) = true := by simp [he]
        have HE := hide he
        clear he
        go_wp2
        go_ret
        exact ⟨ret_int (idxI_at _ ByteArray.empty ns k hall.out hlt (by rw [HX.out, HE.out]; simp)).symm, rfl⟩
      · have he1 : (s.toList == x.toList) = false := by simpa using fun e => he e.symm
        have he2 : ¬ s.toList = x.toList := fun e => he e.symm
        have HE := hide he
        clear he
        go_wp2
        go_round
        case rel => exact ⟨k + 1, by omega, by go_num, fun j hj => by
            rcases Nat.lt_or_ge j k with h | h
            · exact hall.out j h
            · rw [show j = k from by omega, HX.out]; simpa using HE.out⟩
        case measure => simp [intOf]; omega
    · go_wp2
      go_ret
      exact ⟨ret_int (idxI_none _ ByteArray.empty ns (fun j hj => hall.out j (by omega))).symm, rfl⟩
set_option maxRecDepth 100000 in
theorem containsS_any (ns : List ByteArray) (s : ByteArray) (v : Value) (B : Nat) (w : World) (hm : ns.length ≤ maxLen) (h : Names w B v ns) :
    Calls Try.prog 68 #[v, .string s] w fun e w' => e = .returned (.bool ((ns.map fun x => x.data.toList).contains s.data.toList)) ∧ w = w' := by
  have he : (ns.map fun x => x.data.toList).contains s.data.toList = decide (0 ≤ idxI (fun x => x.toList == s.toList) ns) := by
    rw [idxI_any, Bool.eq_iff_iff]
    simp [ByteArray.toList_eq]
  have HE := hide he
  have H := hide h
  clear he h
  go_enter Try.func68, Try.ntmps68
  go_wp2_with (go_at_call 101; refine (indexS_any ns s v B _ hm H.out).mono ?_; rintro e w1 ⟨rfl, rfl⟩)
  go_ret
  exact ⟨ret_bool HE.out.symm, rfl⟩
end Go.Proofs.Ytohofcmikfkilaa
/- Valid formulas and models: walks. -/
namespace Go.Proofs.Ytohofcmikfkilaa
open Go.RowKit
set_option linter.unusedVariables false
set_option linter.unusedSimpArgs false
theorem wrap_zero {w : Nat} (h : (w : Int) ≤ 9223372036854775808) : (wrap64 (w : Int) == 0) = decide (w = 0) := by
  rcases (by omega : (w : Int) ≤ 9223372036854775807 ∨ (w : Int) = 9223372036854775808) with h1 | h1
  · rw [IntWalk.wrap64_in _ (by omega)]
    rw [Bool.eq_iff_iff]; simp
  · rw [h1]
    have : decide (w = 0) = false := by simp; omega
    rw [this]
    unfold wrap64
    rfl
set_option maxRecDepth 100000 in
set_option maxHeartbeats 1000000 in
theorem valid_any (f : List Int) (N : Nat) (v : Value) (B : Nat) (w : World) (hm : f.length ≤ maxLen) (h : Ints w B v f) :
    Calls Try.prog 104 #[v, .int .i64 N] w fun e w' => e = .returned (.bool (validF N f)) ∧ w = w' := by
  unfold maxLen at hm
  obtain ⟨A, b, off, cap, rfl, hnc, hA, hc⟩ := h
  have HC := hide hc
  have HA := hide hA
  have hN0 : (0 : Int) ≤ (N : Int) := by omega
  clear hc hA
  go_enter Try.func104, Try.ntmps104
  go_wp2
  go_loop [5, 10] (fun x i => ∃ k c : Nat, k ≤ f.length ∧ c ≤ k + 1 ∧ i = .int .i64 k ∧ x = .int .i64 (wrap64 (c : Int)) ∧ Hid (vld N 1 f = vld N c (f.drop k))) (fun _ i => f.length - (intOf i).toNat)
  case atStart => exact ⟨0, 1, Nat.zero_le _, by omega, rfl, by rw [IntWalk.wrap64_in _ (by omega)]; rfl, rfl⟩
  case round =>
    obtain ⟨k, c, hk, hck, rfl, rfl, hv⟩ := hrel
    by_cases hlt : k < f.length
    · obtain ⟨rfl, hbb⟩ : A = some ⟨b, off, none⟩ ∧ b < B := by
        rcases HA.out with h | h
        · exact h
        · omega
      obtain ⟨o, ho⟩ : ∃ o, f.getD k 0 = o := ⟨_, rfl⟩
      have c0 : w.cell? ⟨b, off + k, none⟩ = some (.int .i64 o) := by
        have h1 := HC.out k 0 hlt (by omega)
        rw [Nat.mul_one, Nat.add_zero, ho] at h1
        exact h1
      have hv2 := hv.out
      rw [drop_getD hlt, ho] at hv2
      have HV2 := hide hv2
      rw [IntWalk.wrap64_in _ (by omega)]
      have hc0 : (0 : Int) ≤ (c : Int) := by omega
      have hbad : vld N c (o :: f.drop (k + 1)) = false → validF N f = false := fun h => by
        unfold validF; rw [HV2.out, h]; rfl
      have HBAD := hide hbad
      clear hv2 ho hbad
      match c, hck, HV2, HBAD, hc0 with
      | 0, _, HV2, HBAD, hc0 =>
        have h0 : (((0 : Nat) : Int) == 0) = true := by simp
        go_wp2
        go_ret
        exact ⟨ret_bool (HBAD.out rfl).symm, rfl⟩
      | c + 1, hck, HV2, HBAD, hc0 =>
        have h0 : (((c + 1 : Nat) : Int) == 0) = false := by simp; omega
        by_cases h6 : o < -6
        · have hb : vld N (c + 1) (o :: f.drop (k + 1)) = false := by
            have : decide (-6 ≤ o) = false := by simp; omega
            simp only [vld, this, Bool.false_and]
          have HB := hide (HBAD.out hb)
          clear hb
          go_wp2
          go_ret
          exact ⟨ret_bool HB.out.symm, rfl⟩
        · by_cases hoN : (N : Int) ≤ o
          · have hb : vld N (c + 1) (o :: f.drop (k + 1)) = false := by
              have : decide (o < N) = false := by simp; omega
              simp only [vld, this, Bool.and_false, Bool.false_and]
            have HB := hide (HBAD.out hb)
            clear hb
            go_wp2
            go_ret
            exact ⟨ret_bool HB.out.symm, rfl⟩
          · have hg : vld N (c + 1) (o :: f.drop (k + 1)) = vld N (c + arO o) (f.drop (k + 1)) := by
              have h1 : decide (-6 ≤ o) = true := by simp; omega
              have h2 : decide (o < N) = true := by simp; omega
              simp only [vld, h1, h2, Bool.true_and]
            have ha2 : arO o ≤ 2 := by unfold arO; split; omega; split <;> omega
            have HG := hide hg
            clear hg
            go_wp2_with (go_at_call 95; refine (operands_any _ _).mono ?_; rintro e w1 ⟨rfl, rfl⟩)
            go_round
            case rel => exact ⟨k + 1, c + arO o, by omega, by omega, by go_num, by congr 2; first | omega | (congr 1; omega), by rw [hv.out, ← HG.out]; exact (hv.out.symm.trans HV2.out)⟩
            case measure => simp [intOf]; omega
    · obtain rfl : k = f.length := by omega
      have hz := wrap_zero (w := c) (by omega)
      have hf : validF N f = (decide (c = 0) && decide (f.length ≤ 100)) := by
        unfold validF
        rw [hv.out, List.drop_length]
        congr 1
        cases c <;> simp [vld]
      obtain ⟨z, hzz⟩ : ∃ z, wrap64 (c : Int) = z := ⟨_, rfl⟩
      rw [hzz] at hz ⊢
      have HF := hide hf
      clear hf hzz
      by_cases hc0 : c = 0
      · have hz1 : (z == 0) = true := by rw [hz]; simp [hc0]
        have HC0 := hide hc0
        clear hz hc0
        by_cases h100 : f.length ≤ 100
        · have h101 : (f.length : Int) ≤ 100 := by omega
          go_wp2
          go_ret
          exact ⟨ret_bool (by rw [HF.out, HC0.out]; simp [h100]), rfl⟩
        · have h101 : ¬ (f.length : Int) ≤ 100 := by omega
          go_wp2
          go_ret
          exact ⟨ret_bool (by rw [HF.out]; simp [h100]), rfl⟩
      · have hz1 : (z == 0) = false := by rw [hz]; simp [hc0]
        have HC0 := hide hc0
        clear hz hc0
        go_wp2
        go_ret
        exact ⟨ret_bool (by rw [HF.out]; simp [HC0.out]), rfl⟩
end Go.Proofs.Ytohofcmikfkilaa
/- Which formulas and models are valid: walks. -/
namespace Go.Proofs.Ytohofcmikfkilaa
open Go.RowKit
set_option linter.unusedVariables false
set_option linter.unusedSimpArgs false
set_option maxRecDepth 100000 in
theorem indexForms_valid (p : List Int → Bool) (cap0 : Value) (v : Value) (fs : List (List Int)) (w : World) (hm : fs.length ≤ maxLen) (h : Forms w w.heap.size v fs)
    (hf : ∀ (i : Nat) (f : List Int) (fv : Value) (W : World), i < fs.length → fs.getD i [] = f → Below w.heap.size w W → Ints W w.heap.size fv f → Calls Try.prog 103 #[fv, cap0] W fun e w' => e = .returned (.bool (p f)) ∧ Below W.heap.size W w') :
    Calls Try.prog 85 #[v, .func (.func 103) #[] #[cap0]] w fun e w' => e = .returned (.int .i64 (idxI p fs)) ∧ Below w.heap.size w w' := by
  unfold maxLen at hm
  obtain ⟨fvs, ⟨A, b, off, cap, rfl, hnc, hA, hc⟩, hin⟩ := h
  have HC := hide hc
  have HA := hide hA
  have HF := hide hf
  have HIN := hide hin
  clear hc hA hf hin
  go_enter Try.func85, Try.ntmps85
  go_wp2
  go_loopw [5, 8] (fun _ i wr => ∃ k : Nat, k ≤ fs.length ∧ i = .int .i64 k ∧ Hid (∀ j, j < k → p (fs.getD j []) = false) ∧ Below w.heap.size w wr) (fun _ i _ => fs.length - (intOf i).toNat)
  case atStart => exact ⟨0, Nat.zero_le _, rfl, fun j hj => by omega, Below.refl _ _⟩
  case round =>
    obtain ⟨k, hk, rfl, hz, hB⟩ := hrel
    by_cases hlt : k < fs.length
    · obtain ⟨rfl, hbb⟩ : A = some ⟨b, off, none⟩ ∧ b < w.heap.size := by
        rcases HA.out with h | h
        · exact h
        · omega
      obtain ⟨f, hfe⟩ : ∃ f, fs.getD k [] = f := ⟨_, rfl⟩
      have c0 : wr.cell? ⟨b, off + k, none⟩ = some (fvs k) := by
        have h1 := HC.out k 0 hlt (by omega)
        rw [Nat.mul_one, Nat.add_zero] at h1
        exact (hB.cell (p := ⟨b, off + k, none⟩) hbb).trans h1
      have hi : Ints wr w.heap.size (fvs k) f := by
        have := (HIN.out k hlt).below hB
        rwa [hfe] at this
      have hcl := HF.out k f (fvs k) wr hlt hfe hB hi
      obtain ⟨Af, capf, hfv⟩ := Sl.form hi
      rw [hfv] at c0 hcl
      have HFE := hide hfe
      clear hfe hi hfv
      by_cases hp : p f = true
      · rw [hp] at hcl
        have HCL := hide hcl
        have HP := hide hp
        clear hcl hp
        go_wp2_with (go_at_call 103; refine HCL.out.mono ?_; rintro e w1 ⟨rfl, hB1⟩)
        go_ret
        exact ⟨ret_int (idxI_at p [] fs k hz.out hlt (by rw [HFE.out]; exact HP.out)).symm, (by repeat (first | exact Below.refl _ _ | assumption | refine Below.drew ?_ | refine Below.drewN ?_ _ | refine Below.allocT ?_ (Nat.le_refl _) _ | refine Below.setCell ?_ (by simp <;> omega) _ | refine Below.to ?_ (by assumption) (Nat.le_refl _)))⟩
      · have hp' : p f = false := by simpa using hp
        rw [hp'] at hcl
        have HCL := hide hcl
        have HP := hide hp'
        clear hcl hp hp'
        go_wp2_with (go_at_call 103; refine HCL.out.mono ?_; rintro e w1 ⟨rfl, hB1⟩)
        go_roundw
        case rel => exact ⟨k + 1, by omega, by go_num, fun j hj => by
            rcases Nat.lt_or_ge j k with h | h
            · exact hz.out j h
            · rw [show j = k from by omega, HFE.out]; exact HP.out, (by repeat (first | exact Below.refl _ _ | assumption | refine Below.drew ?_ | refine Below.drewN ?_ _ | refine Below.allocT ?_ (Nat.le_refl _) _ | refine Below.setCell ?_ (by simp <;> omega) _ | refine Below.to ?_ (by assumption) (Nat.le_refl _)))⟩
        case measure => simp [intOf]; omega
    · go_wp2
      go_ret
      exact ⟨ret_int (idxI_none p [] fs (fun j hj => hz.out j (by omega))).symm, (by repeat (first | exact Below.refl _ _ | assumption | refine Below.drew ?_ | refine Below.drewN ?_ _ | refine Below.allocT ?_ (Nat.le_refl _) _ | refine Below.setCell ?_ (by simp <;> omega) _ | refine Below.to ?_ (by assumption) (Nat.le_refl _)))⟩


set_option maxRecDepth 100000 in
theorem containsForms_valid (p : List Int → Bool) (cap0 : Value) (v : Value) (fs : List (List Int)) (w : World) (hm : fs.length ≤ maxLen) (h : Forms w w.heap.size v fs)
    (hf : ∀ (i : Nat) (f : List Int) (fv : Value) (W : World), i < fs.length → fs.getD i [] = f → Below w.heap.size w W → Ints W w.heap.size fv f → Calls Try.prog 103 #[fv, cap0] W fun e w' => e = .returned (.bool (p f)) ∧ Below W.heap.size W w') :
    Calls Try.prog 102 #[v, .func (.func 103) #[] #[cap0]] w fun e w' => e = .returned (.bool (fs.any p)) ∧ Below w.heap.size w w' := by
  have hc := indexForms_valid p cap0 v fs w hm h hf
  have he := idxI_any p fs
  have hlo := idxI_lo p fs
  have hhi := idxI_hi p fs
  obtain ⟨z, hz⟩ : ∃ z, idxI p fs = z := ⟨_, rfl⟩
  rw [hz] at hc he hlo hhi
  obtain ⟨fvs, h1, _⟩ := h
  obtain ⟨A, cap, rfl⟩ := Sl.form h1
  have HC := hide hc
  have HE := hide he
  unfold maxLen at hm
  have hz2 : z ≤ 9223372036854775807 := by omega
  clear hc he hz h1 hf
  go_enter Try.func102, Try.ntmps102
  go_wp2_with (go_at_call 85; refine HC.out.mono ?_; rintro e w1 ⟨rfl, hB1⟩)
  go_ret
  exact ⟨ret_bool HE.out, (by repeat (first | exact Below.refl _ _ | assumption | refine Below.drew ?_ | refine Below.drewN ?_ _ | refine Below.allocT ?_ (Nat.le_refl _) _ | refine Below.setCell ?_ (by simp <;> omega) _ | refine Below.to ?_ (by assumption) (Nat.le_refl _)))⟩


/-- A model's cells, in a box. -/
def MoBox (w : World) (b : Nat) (ov rv : Value) : Prop := w.heap[b]? = some (.cells #[ov, rv] 25 (0, 0))
/-- A model in memory. -/
structure MoAt (w : World) (B : Nat) (ov rv : Value) (m : Mo) : Prop where
  o : Names w B ov m.opts
  r : Forms w B rv m.rules
theorem MoAt.below {w w' : World} {B : Nat} {ov rv : Value} {m : Mo} (h : MoAt w B ov rv m) (hb : Below B w w') : MoAt w' B ov rv m := ⟨h.o.below hb, h.r.below hb⟩
theorem MoAt.more {w : World} {B B' : Nat} {ov rv : Value} {m : Mo} (h : MoAt w B ov rv m) (hB : B ≤ B') : MoAt w B' ov rv m := ⟨h.o.more hB, h.r.more hB⟩
theorem MoAt.up {w w' : World} {ov rv : Value} {m : Mo} (h : MoAt w w.heap.size ov rv m) (hb : Below w.heap.size w w') : MoAt w' w'.heap.size ov rv m := (h.below hb).more hb.size
theorem Ints.up {w w' : World} {v : Value} {f : List Int} (h : Ints w w.heap.size v f) (hb : Below w.heap.size w w') : Ints w' w'.heap.size v f := (h.below hb).more hb.size
theorem Forms.up {w w' : World} {v : Value} {f : List (List Int)} (h : Forms w w.heap.size v f) (hb : Below w.heap.size w w') : Forms w' w'.heap.size v f := (h.below hb).more hb.size
theorem Forms.form {w : World} {B : Nat} {v : Value} {fs : List (List Int)} (h : Forms w B v fs) : ∃ A cap, v = .slice A fs.length cap := by
  obtain ⟨_, h1, _⟩ := h
  exact Sl.form h1
/-- Sizes that memory allows. -/
def Sized (l : List (List Int)) : Prop := l.length ≤ maxLen ∧ ∀ f ∈ l, f.length ≤ maxLen
set_option maxRecDepth 100000 in
theorem checkClo_any (f : List Int) (fv ov rv : Value) (n mb : Nat) (A : Option Addr) (cap : Nat) (hov : ov = .slice A n cap) (W : World) (hm : f.length ≤ maxLen) (hb : MoBox W mb ov rv) (B : Nat) (h : Ints W B fv f) :
    Calls Try.prog 103 #[fv, .pointer (some ⟨mb, 0, none⟩)] W fun e w' => e = .returned (.bool (!validF n f)) ∧ Below W.heap.size W w' := by
  subst hov
  have c0 := cellOf hb 0
  have H := hide h
  clear hb h
  go_enter Try.func103, Try.ntmps103
  go_wp2_with (go_at_call 104; refine (valid_any f n _ B _ hm H.out).mono ?_; rintro e w1 ⟨rfl, rfl⟩)
  go_ret
  exact ⟨rfl, (by repeat (first | exact Below.refl _ _ | assumption | refine Below.drew ?_ | refine Below.drewN ?_ _ | refine Below.allocT ?_ (Nat.le_refl _) _ | refine Below.setCell ?_ (by simp <;> omega) _ | refine Below.to ?_ (by assumption) (Nat.le_refl _)))⟩
set_option maxRecDepth 100000 in
theorem checkForms_any (m : Mo) (fs : List (List Int)) (ov rv fv : Value) (w : World) (hm : m.opts.length ≤ maxLen) (hs : Sized fs) (ho : Names w w.heap.size ov m.opts) (h : Forms w w.heap.size fv fs) :
    Calls Try.prog 69 #[.agg #[ov, rv], fv] w fun e w' => e = .returned (.int .i64 (if fs.all (validF m.opts.length) = false then 11 else 0)) ∧ Below w.heap.size w w' := by
  obtain ⟨A, cap, hov⟩ := Sl.form ho
  have hB0 : Below w.heap.size w (w.alloc (.cells #[ov, rv] 25)) := (by repeat (first | exact Below.refl _ _ | assumption | refine Below.drew ?_ | refine Below.drewN ?_ _ | refine Below.allocT ?_ (Nat.le_refl _) _ | refine Below.setCell ?_ (by simp <;> omega) _ | refine Below.to ?_ (by assumption) (Nat.le_refl _)))
  have hbx : MoBox (w.alloc (.cells #[ov, rv] 25)) w.heap.size ov rv := heap_new _ _ _ rfl
  have hcl := containsForms_valid (fun f => !validF m.opts.length f) (.pointer (some ⟨w.heap.size, 0, none⟩)) fv fs (w.alloc (.cells #[ov, rv] 25)) hs.1 (h.up hB0)
    (fun i f fv' W hi hf hB hin => checkClo_any f fv' ov rv m.opts.length w.heap.size A cap hov W (hs.2 f (by rw [← hf]; exact getD_mem hi)) (box_to hbx hB) _ hin)
  have he : fs.any (fun f => !validF m.opts.length f) = !fs.all (validF m.opts.length) := by
    rw [List.all_eq_not_any_not, Bool.not_not]
  rw [he] at hcl
  obtain ⟨Af, capf, hfv⟩ := h.form
  subst hfv hov
  have HCL := hide hcl
  clear hcl he hbx hB0 h ho hs hm
  cases ha : fs.all (validF m.opts.length) with
  | true =>
    rw [ha] at HCL
    clear ha
    go_enter Try.func69, Try.ntmps69
    go_wp2_with (go_at_call 102; refine HCL.out.mono ?_; rintro e w1 ⟨rfl, hB1⟩)
    go_ret
    exact ⟨rfl, (by repeat (first | exact Below.refl _ _ | assumption | refine Below.drew ?_ | refine Below.drewN ?_ _ | refine Below.allocT ?_ (Nat.le_refl _) _ | refine Below.setCell ?_ (by simp <;> omega) _ | refine Below.to ?_ (by assumption) (Nat.le_refl _)))⟩
  | false =>
    rw [ha] at HCL
    clear ha
    go_enter Try.func69, Try.ntmps69
    go_wp2_with (go_at_call 102; refine HCL.out.mono ?_; rintro e w1 ⟨rfl, hB1⟩)
    go_ret
    exact ⟨rfl, (by repeat (first | exact Below.refl _ _ | assumption | refine Below.drew ?_ | refine Below.drewN ?_ _ | refine Below.allocT ?_ (Nat.le_refl _) _ | refine Below.setCell ?_ (by simp <;> omega) _ | refine Below.to ?_ (by assumption) (Nat.le_refl _)))⟩
end Go.Proofs.Ytohofcmikfkilaa
/- CheckModel, check: walks. -/
namespace Go.Proofs.Ytohofcmikfkilaa
open Go.RowKit
set_option linter.unusedVariables false
set_option linter.unusedSimpArgs false
/-- Sizes that memory allows. -/
structure SizedM (m : Mo) : Prop where
  n : m.opts.length ≤ maxLen
  s : ∀ x ∈ m.opts, x.size ≤ maxLen
  r : Sized m.rules
theorem names_get (m : Mo) (k : Nat) : m.names.getD k [] = (m.opts.getD k ByteArray.empty).data.toList := by
  unfold Mo.names
  simp only [List.getD_eq_getElem?_getD, List.getElem?_map]
  cases m.opts[k]? <;> rfl
theorem Mo.err_many {m : Mo} (h : 40 < m.opts.length ∨ 60 < m.rules.length) : m.err = 2 := by unfold Mo.err; rw [if_pos h]
theorem Mo.err_name {m : Mo} (h1 : m.opts.length ≤ 40) (h2 : m.rules.length ≤ 60) (h : namesB [] m.names = false) : m.err = 10 := by unfold Mo.err; rw [if_neg (by omega), if_pos h]
theorem Mo.err_rest {m : Mo} (h1 : m.opts.length ≤ 40) (h2 : m.rules.length ≤ 60) (h : namesB [] m.names = true) : m.err = if m.rules.all (validF m.opts.length) = false then 11 else 0 := by unfold Mo.err; rw [if_neg (by omega), if_neg (by simp [h])]
set_option maxRecDepth 100000 in
set_option maxHeartbeats 2000000 in
theorem CheckModel_any (m : Mo) (ov rv : Value) (w : World) (hs : SizedM m) (h : MoAt w w.heap.size ov rv m) :
    Calls Try.prog 24 #[.agg #[ov, rv]] w fun e w' => e = .returned (.int .i64 m.err) ∧ Below w.heap.size w w' := by
  obtain ⟨A, cap, hov⟩ := Sl.form h.o
  obtain ⟨Ar, capr, hrv⟩ := h.r.form
  by_cases h40 : 40 < m.opts.length
  · have he := Mo.err_many (m := m) (.inl h40)
    have HE := hide he
    have hi : (40 : Int) < (m.opts.length : Int) := by omega
    subst hov hrv
    clear he h40 h
    go_enter Try.func24, Try.ntmps24
    go_wp2_with fail
    go_ret
    exact ⟨ret_int HE.out.symm, (by repeat (first | exact Below.refl _ _ | assumption | refine Below.drew ?_ | refine Below.drewN ?_ _ | refine Below.allocT ?_ (Nat.le_refl _) _ | refine Below.setCell ?_ (by simp <;> omega) _ | refine Below.to ?_ (by assumption) (Nat.le_refl _)))⟩
  by_cases h60 : 60 < m.rules.length
  · have he := Mo.err_many (m := m) (.inr h60)
    have HE := hide he
    have hi : ¬ (40 : Int) < (m.opts.length : Int) := by omega
    have hj : (60 : Int) < (m.rules.length : Int) := by omega
    subst hov hrv
    clear he h40 h60 h
    go_enter Try.func24, Try.ntmps24
    go_wp2_with fail
    go_ret
    exact ⟨ret_int HE.out.symm, (by repeat (first | exact Below.refl _ _ | assumption | refine Below.drew ?_ | refine Below.drewN ?_ _ | refine Below.allocT ?_ (Nat.le_refl _) _ | refine Below.setCell ?_ (by simp <;> omega) _ | refine Below.to ?_ (by assumption) (Nat.le_refl _)))⟩
  have hi : ¬ (40 : Int) < (m.opts.length : Int) := by omega
  have hj : ¬ (60 : Int) < (m.rules.length : Int) := by omega
  have hn := h.o
  subst hov
  obtain ⟨A', b, off, cap', h1, hnc, hA, hc⟩ := hn
  injection h1 with e1 _ e3
  subst e1 e3
  have HC := hide hc
  have HA := hide hA
  have H := hide h
  have HS := hide hs
  have h40' : m.opts.length ≤ 40 := by omega
  have h60' : m.rules.length ≤ 60 := by omega
  have hcn : (m.opts.length : Int) ≤ (cap : Int) := by omega
  subst hrv
  clear hc hA h hs h40 h60
  go_enter Try.func24, Try.ntmps24
  go_wp2_with fail
  generalize hw0 : World.alloc _ _ = w0
  obtain ⟨hb0, hB0, hs0⟩ := alloc1 hw0
  clear hw0
  have HX0 : Hid (MoBox w0 w.heap.size (.slice A m.opts.length cap) (.slice Ar m.rules.length capr)) := hb0
  have HB0 := hide hB0
  have HH0 : Hid (MoAt w0 w0.heap.size (.slice A m.opts.length cap) (.slice Ar m.rules.length capr) m) := H.out.up hB0
  clear hb0 hB0 hs0
  go_loopw [18] (fun i wr => ∃ k : Nat, k ≤ m.opts.length ∧ i = .int .i64 k ∧ Hid (∀ j, j < k → namedB (m.names.getD j []) = true ∧ ([] ++ m.names.take j).contains (m.names.getD j []) = false) ∧ Hid (Below w0.heap.size w0 wr)) (fun i _ => m.opts.length - (intOf i).toNat)
  case atStart => exact ⟨0, Nat.zero_le _, rfl, fun j hj => by omega, Below.refl _ _⟩
  case round =>
    obtain ⟨k, hk, rfl, hall, hB⟩ := hrel
    have hbx := box_to HX0.out hB.out
    have x0 := cellOf hbx 0
    have x1 := cellOf hbx 1
    clear hbx
    by_cases hlt : k < m.opts.length
    · obtain ⟨rfl, hbb⟩ : A = some ⟨b, off, none⟩ ∧ b < w.heap.size := by
        rcases HA.out with h | h
        · exact h
        · omega
      obtain ⟨x, hx⟩ : ∃ x, m.opts.getD k ByteArray.empty = x := ⟨_, rfl⟩
      have hBw := Below.to HB0.out hB.out (Nat.le_refl _)
      have c0 : wr.cell? ⟨b, off + k, none⟩ = some (.string x) := by
        have h1 := HC.out k 0 hlt (by omega)
        rw [Nat.mul_one, Nat.add_zero, hx] at h1
        exact (hBw.cell (p := ⟨b, off + k, none⟩) hbb).trans h1
      have hxs : x.size ≤ maxLen := HS.out.s x (by rw [← hx]; exact getD_mem hlt)
      have hnm : m.names.getD k [] = x.data.toList := by rw [names_get, hx]
      have HNM := hide hnm
      have HBW := hide hBw
      have ik : (k : Int) ≤ (cap : Int) := by omega
      have ik2 : (k : Int) < (m.opts.length : Int) := by omega
      clear hx hnm hBw
      by_cases hnb : namedB x.data.toList = true
      · have hct := containsS_any (m.opts.take k) x (.slice (some ⟨b, off, none⟩) k cap) w.heap.size wr (by unfold maxLen; simp; omega) (Names.take (H.out.o.below HBW.out) (by omega))
        have hmt : (m.opts.take k).map (fun x => x.data.toList) = m.names.take k := by unfold Mo.names; rw [List.map_take]
        rw [hmt] at hct
        have hna := named_any x wr hxs
        rw [hnb] at hna
        have HNA := hide hna
        have HNB := hide hnb
        clear hmt hna hnb
        cases hcc : (m.names.take k).contains x.data.toList with
        | true =>
          rw [hcc] at hct
          have HCT := hide hct
          have hbad : namesB [] m.names = false := namesB_at [] m.names k (by unfold Mo.names; simpa using hlt) hall.out (by rw [HNM.out, HNB.out, List.nil_append, hcc]; rfl)
          have he := Mo.err_name h40' h60' hbad
          have HE := hide he
          clear hcc hct hbad he
          go_wp2_with (first | (go_at_call 67; refine HNA.out.mono ?_; rintro e w1 ⟨rfl, rfl⟩) | (go_at_call 68; refine HCT.out.mono ?_; rintro e w2 ⟨rfl, rfl⟩))
          go_ret
          exact ⟨ret_int HE.out.symm, HBW.out⟩
        | false =>
          rw [hcc] at hct
          have HCT := hide hct
          have HCC := hide hcc
          clear hct hcc
          go_wp2_with (first | (go_at_call 67; refine HNA.out.mono ?_; rintro e w1 ⟨rfl, rfl⟩) | (go_at_call 68; refine HCT.out.mono ?_; rintro e w2 ⟨rfl, rfl⟩))
          go_roundw
          case rel => exact ⟨k + 1, by omega, by go_num, fun j hj => by
              rcases Nat.lt_or_ge j k with h | h
              · exact hall.out j h
              · rw [show j = k from by omega, HNM.out, List.nil_append]; exact ⟨HNB.out, HCC.out⟩, hB.out⟩
          case measure => simp [intOf]; omega
      · have hnb' : namedB x.data.toList = false := by simpa using hnb
        have hna := named_any x wr hxs
        rw [hnb'] at hna
        have HNA := hide hna
        have hbad : namesB [] m.names = false := namesB_at [] m.names k (by unfold Mo.names; simpa using hlt) hall.out (by rw [HNM.out, hnb']; rfl)
        have he := Mo.err_name h40' h60' hbad
        have HE := hide he
        clear hna hbad he hnb hnb'
        go_wp2_with (go_at_call 67; refine HNA.out.mono ?_; rintro e w1 ⟨rfl, rfl⟩)
        go_ret
        exact ⟨ret_int HE.out.symm, HBW.out⟩
    · have hgood : namesB [] m.names = true := namesB_all [] m.names (fun j hj => hall.out j (by unfold Mo.names at hj; simp at hj; omega))
      have he := Mo.err_rest h40' h60' hgood
      have hmw := HH0.out.up hB.out
      have hck := checkForms_any m m.rules (.slice A m.opts.length cap) (.slice Ar m.rules.length capr) (.slice Ar m.rules.length capr) wr HS.out.n HS.out.r hmw.o hmw.r
      rw [← he] at hck
      have HCK := hide hck
      clear hgood he hmw hck
      go_wp2_with (go_at_call 69; refine HCK.out.mono ?_; rintro e w1 ⟨rfl, hB1⟩)
      go_ret
      exact ⟨rfl, Below.to (Below.to HB0.out hB.out (Nat.le_refl _)) hB1 (Nat.le_refl _)⟩
theorem Mo.errF_err {m : Mo} {l : List (List Int)} (h : m.err ≠ 0) : m.errF l = m.err := by unfold Mo.errF; rw [if_pos h]
theorem Mo.errF_ok {m : Mo} {l : List (List Int)} (h : m.err = 0) : m.errF l = if l.all (validF m.opts.length) = false then 11 else 0 := by unfold Mo.errF; rw [if_neg (by simp [h])]
set_option maxRecDepth 100000 in
theorem check_any (m : Mo) (l : List (List Int)) (ov rv lv : Value) (w : World) (hs : SizedM m) (hl : Sized l) (h : MoAt w w.heap.size ov rv m) (hf : Forms w w.heap.size lv l) :
    Calls Try.prog 72 #[.agg #[ov, rv], lv] w fun e w' => e = .returned (.int .i64 (m.errF l)) ∧ Below w.heap.size w w' := by
  obtain ⟨A, cap, hov⟩ := Sl.form h.o
  obtain ⟨Ar, capr, hrv⟩ := h.r.form
  obtain ⟨Al, capl, hlv⟩ := hf.form
  have H := hide h
  have HF := hide hf
  have HS := hide hs
  have HL := hide hl
  subst hov hrv hlv
  clear h hf hs hl
  go_enter Try.func72, Try.ntmps72
  go_upto_region 1 with (fail)
  generalize hw0 : World.alloc _ _ = w0
  obtain ⟨hb0, hB0, hs0⟩ := alloc1 hw0
  clear hw0
  have c0 := cellOf hb0 0
  have c1 := cellOf hb0 1
  have HX0 : Hid (MoBox w0 w.heap.size (.slice A m.opts.length cap) (.slice Ar m.rules.length capr)) := hb0
  have HB0 := hide hB0
  have hck := CheckModel_any m (.slice A m.opts.length cap) (.slice Ar m.rules.length capr) w0 HS.out (H.out.up hB0)
  clear hb0 hB0 hs0
  by_cases he : m.err = 0
  · rw [he] at hck
    have HCK := hide hck
    have HE := hide (Mo.errF_ok (l := l) he)
    clear hck he
    go_wp2_with (go_at_call 24; refine HCK.out.mono ?_; rintro e w1 ⟨rfl, hB1⟩; have hbx := box_to HX0.out hB1; have d0 := cellOf hbx 0; have d1 := cellOf hbx 1; have HB1 : Hid (Below w.heap.size w w1) := Below.to HB0.out hB1 (Nat.le_refl _); clear hbx hB1)
    have hcf := checkForms_any m l (.slice A m.opts.length cap) (.slice Ar m.rules.length capr) (.slice Al l.length capl) w1 HS.out.n HL.out (H.out.up HB1.out).o (HF.out.up HB1.out)
    rw [← HE.out] at hcf
    have HCF := hide hcf
    clear hcf
    go_wp2_with (go_at_call 69; refine HCF.out.mono ?_; rintro e w2 ⟨rfl, hB2⟩)
    go_ret
    exact ⟨rfl, Below.to HB1.out hB2 (Nat.le_refl _)⟩
  · have hne : (m.err != 0) = true := by simpa using he
    have HE := hide (Mo.errF_err (l := l) he)
    have HCK := hide hck
    obtain ⟨z, hz⟩ : ∃ z, m.err = z := ⟨_, rfl⟩
    rw [hz] at hne HCK HE
    clear hck he hz
    go_wp2_with (go_at_call 24; refine HCK.out.mono ?_; rintro e w1 ⟨rfl, hB1⟩)
    go_ret
    exact ⟨ret_int HE.out.symm, Below.to HB0.out hB1 (Nat.le_refl _)⟩
end Go.Proofs.Ytohofcmikfkilaa
/- begin: walk. -/
namespace Go.Proofs.Ytohofcmikfkilaa
open Go.RowKit
set_option linter.unusedVariables false
set_option linter.unusedSimpArgs false
/-- What begin gives back where nothing is wrong. -/
structure BegR (m : Mo) (w w' : World) (F : Fo) (n : Nat) : Prop where
  here : FoAt w' F
  N : F.N = m.opts.length
  base : w.heap.size ≤ F.base
  below : Below w.heap.size w w'
  base2 : F.base ≤ w'.heap.size
  lt : n < F.ks.length
  ev : ∀ v, ev F.ks v n = allF v m.rules
  len : F.ks.length ≤ 2 + 6120 * 2 ^ F.N
  nj : F.nj ≤ 6120 * 2 ^ F.N
theorem BegR.room {m : Mo} {w w' : World} {F : Fo} {n : Nat} (h : BegR m w w' F n) (hN : m.opts.length ≤ 12) {k : Nat} (hk : k ≤ 200000) : Room F k := by
  have h1 := h.len
  have h2 := h.nj
  have h3 : 2 ^ F.N ≤ 2 ^ 12 := Nat.pow_le_pow_right (by omega) (by rw [h.N]; exact hN)
  have h4 := Nat.mul_le_mul (Nat.le_refl 6120) h3
  have h5 := Nat.mul_le_mul hk h3
  unfold Room
  omega
set_option maxRecDepth 100000 in
theorem begin_err (m : Mo) (l : List (List Int)) (ov rv lv : Value) (w : World) (hs : SizedM m) (hl : Sized l) (h : MoAt w w.heap.size ov rv m) (hf : Forms w w.heap.size lv l) (he : m.errF l ≠ 0) :
    Calls Try.prog 60 #[.agg #[ov, rv], lv] w fun e w' => e = .returned (.tuple #[.pointer none, .int .i64 0, .int .i64 (m.errF l)]) ∧ Below w.heap.size w w' := by
  obtain ⟨A, cap, hov⟩ := Sl.form h.o
  obtain ⟨Ar, capr, hrv⟩ := h.r.form
  obtain ⟨Al, capl, hlv⟩ := hf.form
  have H := hide h
  have HF := hide hf
  subst hov hrv hlv
  have hne : (m.errF l != 0) = true := by simpa using he
  obtain ⟨z, hz⟩ : ∃ z, m.errF l = z := ⟨_, rfl⟩
  rw [hz] at hne ⊢
  have HZ := hide hz
  clear h hf hz he
  go_enter Try.func60, Try.ntmps60
  go_upto_region 1 with (fail)
  generalize hw0 : World.alloc _ _ = w0
  obtain ⟨hb0, hB0, hs0⟩ := alloc1 hw0
  clear hw0
  have c0 := cellOf hb0 0
  have c1 := cellOf hb0 1
  have HB0 := hide hB0
  have hck := check_any m l (.slice A m.opts.length cap) (.slice Ar m.rules.length capr) (.slice Al l.length capl) w0 hs hl (H.out.up hB0) (HF.out.up hB0)
  rw [HZ.out] at hck
  have HCK := hide hck
  clear hb0 hB0 hs0 hck
  go_wp2_with (go_at_call 72; refine HCK.out.mono ?_; rintro e w1 ⟨rfl, hB1⟩)
  go_ret3
  exact ⟨rfl, Below.to HB0.out hB1 (Nat.le_refl _)⟩
set_option maxRecDepth 100000 in
theorem begin_ok (m : Mo) (l : List (List Int)) (ov rv lv : Value) (w : World) (hs : SizedM m) (hl : Sized l) (h : MoAt w w.heap.size ov rv m) (hf : Forms w w.heap.size lv l) (he : m.errF l = 0) (hN : m.opts.length ≤ 12) :
    Calls Try.prog 60 #[.agg #[ov, rv], lv] w fun e w' => ∃ F n, e = .returned (.tuple #[.pointer (some ⟨F.p, 0, none⟩), .int .i64 (n : Nat), .int .i64 0]) ∧ BegR m w w' F n := by
  obtain ⟨A, cap, hov⟩ := Sl.form h.o
  obtain ⟨Ar, capr, hrv⟩ := h.r.form
  obtain ⟨Al, capl, hlv⟩ := hf.form
  have H := hide h
  have HF := hide hf
  have hok := Mo.ok (Mo.okF he).1
  subst hov hrv hlv
  clear h hf
  go_enter Try.func60, Try.ntmps60
  go_upto_region 1 with (fail)
  generalize hw0 : World.alloc _ _ = w0
  obtain ⟨hb0, hB0, hs0⟩ := alloc1 hw0
  clear hw0
  have c0 := cellOf hb0 0
  have c1 := cellOf hb0 1
  have HX0 : Hid (MoBox w0 w.heap.size (.slice A m.opts.length cap) (.slice Ar m.rules.length capr)) := hb0
  have HB0 := hide hB0
  have hck := check_any m l (.slice A m.opts.length cap) (.slice Ar m.rules.length capr) (.slice Al l.length capl) w0 hs hl (H.out.up hB0) (HF.out.up hB0)
  rw [he] at hck
  have HCK := hide hck
  have HOK := hide hok
  clear hb0 hB0 hs0 hck he hok
  go_wp2_with (first | (go_at_call 72; refine HCK.out.mono ?_; rintro e w1 ⟨rfl, hB1⟩; have hbx := box_to HX0.out hB1; have d0 := cellOf hbx 0; have d1 := cellOf hbx 1; have HB1 : Hid (Below w.heap.size w w1) := Below.to HB0.out hB1 (Nat.le_refl _); have HX1 : Hid (MoBox w1 w.heap.size (.slice A m.opts.length cap) (.slice Ar m.rules.length capr)) := hbx; clear hbx hB1 c0 c1) | (go_at_call 93; refine (newForest_any m.opts.length (by omega) _).mono ?_; rintro e w2 ⟨rfl, hF2, hB2⟩; have hbx := box_to HX1.out hB2; have x0 := cellOf hbx 0; have x1 := cellOf hbx 1; have HB2 : Hid (Below w.heap.size w w2) := Below.to HB1.out hB2 (Nat.le_refl _); have HF2 := hide hF2; have HS2 : Hid (w1.heap.size ≤ w2.heap.size) := hB2.size; clear hbx hB2 hF2 d0 d1))
  have hp : 2 ^ m.opts.length ≤ 2 ^ 12 := Nat.pow_le_pow_right (by omega) hN
  have hrl : 102 * m.rules.length ≤ 6120 := by have := HOK.out.2.1; omega
  have hmu := Nat.mul_le_mul hrl hp
  have hmu2 : 102 * m.rules.length * 2 ^ m.opts.length ≤ 6120 * 2 ^ m.opts.length := Nat.mul_le_mul_right _ hrl
  have hs1 := HB1.out.size
  have hs2 := HS2.out
  have hal := all_any (newFo w1.heap.size m.opts.length) m.rules (.slice Ar m.rules.length capr) w2 HF2.out hs2 HOK.out.2.2.2 ((H.out.r.below HB2.out).more hs1) (by have := HOK.out.2.1; omega) ⟨by show 2 + 102 * m.rules.length * 2 ^ m.opts.length ≤ _; omega, by show 0 + 102 * m.rules.length * 2 ^ m.opts.length ≤ _; omega⟩
  have HAL : Hid (Calls Try.prog 74 #[.pointer (some ⟨w1.heap.size + 3, 0, none⟩), .slice Ar m.rules.length capr] w2 _) := hal
  have HMU : Hid (102 * m.rules.length * 2 ^ m.opts.length ≤ 6120 * 2 ^ m.opts.length) := hmu2
  clear hp hrl hmu hmu2 hs1 hs2 hal
  refine HAL.out.mono ?_
  rintro e w3 ⟨n, F3, rfl, r1, r2, r3⟩
  have R1 := hide r1
  have R3 := hide r3
  clear r1 r3
  go_wp2_with fail
  go_ret3
  refine ⟨F3, n, ?_, ?_⟩
  · rw [R1.out.st.p]; rfl
  · have hb3 := R1.out.st.below HF2.out HS2.out
    refine ⟨R1.out.st.here, R1.out.st.N, by rw [R1.out.st.ba]; exact HB1.out.size, ?_, ?_, r2, R3.out, ?_, ?_⟩
    · exact ⟨hb3.os.trans HB2.out.os, hb3.tape.trans HB2.out.tape, hb3.output.trans HB2.out.output, Nat.le_trans HB2.out.size hb3.size, fun k hk => (hb3.block k (Nat.lt_of_lt_of_le hk HB1.out.size)).trans (HB2.out.block k hk)⟩
    · rw [R1.out.st.ba]; exact Nat.le_trans HS2.out hb3.size
    · have h1 := R1.out.len
      have h2 := HMU.out
      rw [R1.out.st.N]
      show _ ≤ 2 + 6120 * 2 ^ m.opts.length
      replace h1 : F3.ks.length ≤ 2 + 102 * m.rules.length * 2 ^ m.opts.length := h1
      omega
    · have h1 := R1.out.nj
      have h2 := HMU.out
      rw [R1.out.st.N]
      show _ ≤ 6120 * 2 ^ m.opts.length
      replace h1 : F3.nj ≤ 0 + 102 * m.rules.length * 2 ^ m.opts.length := h1
      omega
end Go.Proofs.Ytohofcmikfkilaa
/- Count: walk. -/
namespace Go.Proofs.Ytohofcmikfkilaa
open Go.RowKit
set_option linter.unusedVariables false
set_option linter.unusedSimpArgs false
/-- The buildable variants in which a formula holds. -/
def satM (m : Mo) (p : (Nat → Bool) → Bool) : List (List Bool) := (exts m.opts.length []).filter fun x => allF (vf x) m.rules && p (vf x)
theorem satM_node {m : Mo} {ks : List Kn} {N n : Nat} {p : (Nat → Bool) → Bool} (hN : N = m.opts.length) (h : ∀ v, ev ks v n = (allF v m.rules && p v)) : sat ks N n [] = satM m p := by
  unfold sat satM
  rw [hN]
  exact List.filter_congr fun x _ => h _
/-- One formula in a new block is a list of formulas. -/
theorem forms_one {w : World} {b B : Nat} {fv : Value} {f : List Int} {t : Nat} (hb : w.heap[b]? = some (.cells #[fv] t (0, 0))) (hB : b < B) (h : Ints w B fv f) : Forms w B (.slice (some ⟨b, 0, none⟩) 1 1) [f] :=
  ⟨fun _ => fv, ⟨_, b, 0, 1, rfl, Nat.le_refl _, .inl ⟨rfl, hB⟩, fun i j hi hj => by
    simp at hi
    obtain rfl : j = 0 := by omega
    subst hi
    exact cellOf hb 0⟩, fun i hi => by
    simp at hi
    subst hi
    exact h⟩
theorem sized_one {f : List Int} (h : f.length ≤ maxLen) : Sized [f] := ⟨by unfold maxLen; simp, fun g hg => by simp at hg; rw [hg]; exact h⟩
/-- After begin and further steps all that was there before is as it was. -/
theorem OpR.low {m : Mo} {w w1 w2 : World} {F F2 : Fo} {n k : Nat} (h : BegR m w w1 F n) (r : OpR k w1 F w2 F2) : Below w.heap.size w w2 := by
  have hb := r.st.below h.here h.base2
  exact ⟨hb.os.trans h.below.os, hb.tape.trans h.below.tape, hb.output.trans h.below.output, Nat.le_trans h.below.size hb.size, fun k hk => (hb.block k (Nat.lt_of_lt_of_le hk h.base)).trans (h.below.block k hk)⟩
theorem BegR.of {m : Mo} {w w0 w1 : World} {F : Fo} {n : Nat} (h : BegR m w0 w1 F n) (hb : Below w.heap.size w w0) : BegR m w w1 F n :=
  ⟨h.here, h.N, Nat.le_trans hb.size h.base, Below.to hb h.below (Nat.le_refl _), h.base2, h.lt, h.ev, h.len, h.nj⟩
theorem BegR.op {m : Mo} {w w1 : World} {F : Fo} {n : Nat} (h : BegR m w w1 F n) : OpR 0 w1 F w1 F := OpR.refl h.here 0
theorem grow_beg {m : Mo} {w w1 w2 : World} {F F1 : Fo} {n k : Nat} {f : List Int} {fv : Value} (h : BegR m w w1 F n) (hN : m.opts.length ≤ 12) (r : OpR k w1 F w2 F1) (hk : k + 100 ≤ 200000) (hf : Ints w w.heap.size fv f) (hv : validF m.opts.length f = true) :
    Calls Try.prog 61 #[.pointer (some ⟨F.p, 0, none⟩), fv] w2
      fun e w' => ∃ g F', e = .returned (.int .i64 (g : Nat)) ∧ OpR (k + 100) w1 F w' F' ∧ OpR 100 w2 F1 w' F' ∧ g < F'.ks.length ∧ ∀ v, ev F'.ks v g = evF1 v f := by
  have hl := (validF_pos hv).2
  have hc := grow_any F1 f fv w2 r.st.here (by rw [r.st.ba]; exact Nat.le_trans h.base2 r.st.keep.size) (by rw [r.st.N, h.N]; exact hv) (by
    rw [r.st.ba]
    exact (hf.below (r.low h)).more h.base) ((h.room hN (k := k + 100) hk |>.step r).mono hl)
  rw [r.st.p] at hc
  refine hc.mono ?_
  rintro e w' ⟨g, F', rfl, r1, r2, r3⟩
  exact ⟨g, F', rfl, r.trans (r1.mono hl), r1.mono hl, r2, r3⟩
/-- and of some nodes, in a block that was just made. -/
theorem and_beg {m : Mo} {w w1 w2 : World} {F F1 : Fo} {n k : Nat} {l : List Nat} (h : BegR m w w1 F n) (hN : m.opts.length ≤ 12) (r : OpR k w1 F w2 F1) (hk : k + 4 ≤ 200000) (hl : l.length ≤ 4) (hln : ∀ x ∈ l, x < F1.ks.length) :
    Calls Try.prog 73 #[.pointer (some ⟨F.p, 0, none⟩), .slice (some ⟨w2.heap.size, 0, none⟩) l.length l.length] (w2.alloc (.cells (l.map fun (n : Nat) => Value.int .i64 n).toArray 3))
      fun e w' => ∃ g F', e = .returned (.int .i64 (g : Nat)) ∧ OpR (k + 4) w1 F w' F' ∧ OpR 4 w2 F1 w' F' ∧ g < F'.ks.length ∧ ∀ v, ev F'.ks v g = l.all (fun x => ev F1.ks v x) := by
  have hB : Below w2.heap.size w2 (w2.alloc (.cells (l.map fun (n : Nat) => Value.int .i64 n).toArray 3)) := (Below.refl _ _).alloc (Nat.le_refl _) _
  have hc := and_any F1 w2.heap.size l _ (r.st.here.below hB) hln (heap_new _ _ _ rfl) (fun e => by have := r.st.here.slt e; omega) (by omega) ((h.room hN (k := k + 4) hk |>.step r).mono hl)
  rw [r.st.p] at hc
  refine hc.mono ?_
  rintro e w' ⟨g, F', rfl, r1, r2, r3⟩
  have r4 : OpR 4 w2 F1 w' F' := (OpR.after_below r.st.here hB r1).mono hl
  exact ⟨g, F', rfl, r.trans r4, r4, r2, r3⟩
set_option maxRecDepth 100000 in
theorem Count_err (m : Mo) (f : List Int) (ov rv fv : Value) (w : World) (hs : SizedM m) (hl : f.length ≤ maxLen) (h : MoAt w w.heap.size ov rv m) (hf : Ints w w.heap.size fv f) (he : m.errF [f] ≠ 0) :
    Calls Try.prog 31 #[.agg #[ov, rv], fv] w fun e w' => e = .returned (.tuple #[.int .i64 0, .int .i64 (m.errF [f])]) ∧ Below w.heap.size w w' := by
  obtain ⟨A, cap, hov⟩ := Sl.form h.o
  obtain ⟨Ar, capr, hrv⟩ := h.r.form
  obtain ⟨Al, capl, hlv⟩ := Sl.form hf
  have H := hide h
  have HF := hide hf
  subst hov hrv hlv
  have hB2 : Below w.heap.size w ((w.alloc (.cells #[.slice A m.opts.length cap, .slice Ar m.rules.length capr] 25)).alloc (.cells #[.slice Al f.length capl] 35)) := (by repeat (first | exact Below.refl _ _ | assumption | refine Below.drew ?_ | refine Below.drewN ?_ _ | refine Below.allocT ?_ (Nat.le_refl _) _ | refine Below.setCell ?_ (by simp <;> omega) _ | refine Below.to ?_ (by assumption) (Nat.le_refl _)))
  have hbe := begin_err m [f] (.slice A m.opts.length cap) (.slice Ar m.rules.length capr) (.slice (some ⟨w.heap.size + 1, 0, none⟩) 1 1) _ hs (sized_one hl) (h.up hB2) (forms_one (heap_new _ _ _ (by simp)) (by simp) (hf.up hB2)) he
  have hne : (m.errF [f] != 0) = true := by simpa using he
  obtain ⟨z, hz⟩ : ∃ z, m.errF [f] = z := ⟨_, rfl⟩
  rw [hz] at hne hbe ⊢
  have HBE := hide hbe
  clear h hf hz he hbe hB2
  go_enter Try.func31, Try.ntmps31
  go_wp2_with (go_at_call 60; refine HBE.out.mono ?_; rintro e w1 ⟨rfl, hB1⟩)
  go_ret2
  exact ⟨rfl, (by repeat (first | exact Below.refl _ _ | assumption | refine Below.drew ?_ | refine Below.drewN ?_ _ | refine Below.allocT ?_ (Nat.le_refl _) _ | refine Below.setCell ?_ (by simp <;> omega) _ | refine Below.to ?_ (by assumption) (Nat.le_refl _)))⟩
set_option maxRecDepth 100000 in
set_option maxHeartbeats 1000000 in
theorem Count_ok (m : Mo) (f : List Int) (ov rv fv : Value) (w : World) (hs : SizedM m) (hl : f.length ≤ maxLen) (h : MoAt w w.heap.size ov rv m) (hf : Ints w w.heap.size fv f) (he : m.errF [f] = 0) (hN : m.opts.length ≤ 12) :
    Calls Try.prog 31 #[.agg #[ov, rv], fv] w fun e w' => e = .returned (.tuple #[.int .i64 ((satM m fun v => evF1 v f).length : Nat), .int .i64 0]) ∧ Below w.heap.size w w' := by
  have hmm := @run_makeMap Try.prog
  obtain ⟨A, cap, hov⟩ := Sl.form h.o
  obtain ⟨Ar, capr, hrv⟩ := h.r.form
  obtain ⟨Al, capl, hlv⟩ := Sl.form hf
  have H := hide h
  have HF := hide hf
  have HOK := hide (Mo.okF he)
  subst hov hrv hlv
  have hB2 : Below w.heap.size w ((w.alloc (.cells #[.slice A m.opts.length cap, .slice Ar m.rules.length capr] 25)).alloc (.cells #[.slice Al f.length capl] 35)) := (by repeat (first | exact Below.refl _ _ | assumption | refine Below.drew ?_ | refine Below.drewN ?_ _ | refine Below.allocT ?_ (Nat.le_refl _) _ | refine Below.setCell ?_ (by simp <;> omega) _ | refine Below.to ?_ (by assumption) (Nat.le_refl _)))
  have hbe := begin_ok m [f] (.slice A m.opts.length cap) (.slice Ar m.rules.length capr) (.slice (some ⟨w.heap.size + 1, 0, none⟩) 1 1) _ hs (sized_one hl) (h.up hB2) (forms_one (heap_new _ _ _ (by simp)) (by simp) (hf.up hB2)) he hN
  have HBE := hide hbe
  clear h hf he hbe hB2
  go_enter Try.func31, Try.ntmps31
  go_wp2_with (go_at_call 60; refine HBE.out.mono ?_; rintro e w1 ⟨F, n, rfl, r1⟩; have R1 : Hid (BegR m w w1 F n) := r1.of (by repeat (first | exact Below.refl _ _ | assumption | refine Below.drew ?_ | refine Below.drewN ?_ _ | refine Below.allocT ?_ (Nat.le_refl _) _ | refine Below.setCell ?_ (by simp <;> omega) _ | refine Below.to ?_ (by assumption) (Nat.le_refl _))); clear r1)
  refine (grow_beg R1.out hN R1.out.op (by omega) HF.out (HOK.out.2 f (by simp))).mono ?_
  rintro e w2 ⟨g, F2, rfl, r2, r3, hg, r4⟩
  have R2 := hide r2
  have R4 := hide r4
  have R3 := hide r3
  have hn2 : n < F2.ks.length := Nat.lt_of_lt_of_le R1.out.lt r3.st.le
  clear r2 r3 r4
  go_wp2_with fail
  refine (and_beg (l := [n, g]) R1.out hN R2.out (by omega) (by simp) (by intro x hx; simp at hx; rcases hx with rfl | rfl <;> assumption)).mono ?_
  rintro e w3 ⟨x, F3, rfl, r5, r6, hx, r7⟩
  have R5 := hide r5
  have R7 := hide r7
  have hN3 : F3.N = m.opts.length := r5.st.N.trans R1.out.N
  have hp : 2 ^ (F3.N + 1) ≤ 2 ^ 13 := Nat.pow_le_pow_right (by omega) (by omega)
  have hB3 : Below w3.heap.size w3 (w3.alloc (.map #[] 0)) := (Below.refl _ _).alloc (Nat.le_refl _) _
  have hco := count_any F3 w3.heap.size (fun e => by have := r5.st.here.slt e; omega) (by omega) F3.N x 0 (w3.alloc (.map #[] 0)) (fun _ => none) 0 (r5.st.here.below hB3) hx (by omega) (by omega) (MapIs.made _ _ _ _ _) (fun n x h => by cases h) (by omega)
  rw [r5.st.p] at hco
  have HCO := hide hco
  have HN3 := hide hN3
  clear r5 r6 r7 hco hN3 hp hB3
  go_wp2_with fail
  refine HCO.out.mono ?_
  rintro e w4 ⟨m', cnt', rfl, r8⟩
  have R8 := hide r8
  clear r8
  go_wp2_with fail
  go_ret2
  refine ⟨?_, ?_⟩
  · have h1 : cntK F3.ks F3.N x 0 = (satM m fun v => evF1 v f).length := by
      unfold cntK
      rw [show List.replicate 0 false = ([] : List Bool) from rfl, satM_node (p := fun v => evF1 v f) HN3.out (fun v => by rw [R7.out v, List.all_cons, List.all_cons, List.all_nil, R4.out v, R3.out.st.ev R1.out.here.wf R1.out.lt, R1.out.ev v, Bool.and_true])]
    rw [h1]; rfl
  · have h2 := R5.out.low R1.out
    have h3 := R8.out.keep.below (B := w.heap.size) (by have := h2.size; simp; omega) (fun k hk => by rw [hk]; exact h2.size)
    exact (Below.allocT h2 (Nat.le_refl _) _).trans h3
end Go.Proofs.Ytohofcmikfkilaa

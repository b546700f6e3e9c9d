/- Part 2 of this claim's texts: walks and plain laws. -/
import Derived.Test.YtjimbcklnnhloaaDoorRows
import Derived.Test.YtjimbcklnnhloaaDoorGR1
import Derived.Laws.ShiftsVarLaws
import Derived.Test.YtjimbcklnnhloaaDoorGR0
import Derived.WalkLawsBesides
import Derived.WalkSpells
import Derived.Deep.QuietTactic
import Derived.StringKeys
/- The node of formulas that all have to hold: walk. -/
namespace Go.Proofs.YtjimbcklnnhloaaDoor
open Go.RowKit
open Go.Maps (Keyed)
set_option linter.unusedVariables false
set_option linter.unusedSimpArgs false
/-- The slice v holds the formulas fs, all below block B. -/
def Forms (w : World) (B : Nat) (v : Value) (fs : List (List Int)) : Prop := ∃ fv : Nat → Value, Sl w B 1 v fs.length (fun i _ => fv i) ∧ ∀ i, i < fs.length → Ints w B (fv i) (fs.getD i [])
theorem Ints.below {w w' : World} {B : Nat} {v : Value} {f : List Int} (h : Ints w B v f) (hb : Below B w w') : Ints w' B v f := Sl.below h hb
theorem Ints.more {w : World} {B B' : Nat} {v : Value} {f : List Int} (h : Ints w B v f) (hB : B ≤ B') : Ints w B' v f := Sl.more h hB
theorem Forms.below {w w' : World} {B : Nat} {v : Value} {fs : List (List Int)} (h : Forms w B v fs) (hb : Below B w w') : Forms w' B v fs := by
  obtain ⟨fv, h1, h2⟩ := h
  exact ⟨fv, Sl.below h1 hb, fun i hi => Sl.below (h2 i hi) hb⟩
theorem Forms.more {w : World} {B B' : Nat} {v : Value} {fs : List (List Int)} (h : Forms w B v fs) (hB : B ≤ B') : Forms w B' v fs := by
  obtain ⟨fv, h1, h2⟩ := h
  exact ⟨fv, Sl.more h1 hB, fun i hi => Sl.more (h2 i hi) hB⟩
theorem allF_snoc (v : Nat → Bool) (l : List (List Int)) (f : List Int) : allF v (l ++ [f]) = (allF v l && evF1 v f) := by simp [allF]
theorem getD_mem {α : Type} {l : List α} {z : α} {k : Nat} (h : k < l.length) : l.getD k z ∈ l := by
  rw [List.getD_eq_getElem?_getD, List.getElem?_eq_getElem h]; exact List.getElem_mem _
theorem take_getD {α : Type} {l : List α} {z : α} {k : Nat} (h : k < l.length) : l.take (k + 1) = l.take k ++ [l.getD k z] := by
  rw [List.take_succ_eq_append_getElem h, List.getD_eq_getElem?_getD, List.getElem?_eq_getElem h]; rfl
set_option maxRecDepth 100000 in
set_option maxHeartbeats 1000000 in
theorem all_any (F : Fo) (fs : List (List Int)) (fv : Value) (w : World) (h : FoAt w F) (hB : F.base ≤ w.heap.size) (hv : ∀ f ∈ fs, validF F.N f = true) (hf : Forms w F.base fv fs) (hn : fs.length ≤ 1000) (hr : Room F (102 * fs.length)) :
    Calls Tryd.prog 44 #[.pointer (some ⟨F.p, 0, none⟩), fv] w
      fun e w' => ∃ m F', e = .returned (.int .i64 (m : Nat)) ∧ OpR (102 * fs.length) w F w' F' ∧ m < F'.ks.length ∧ ∀ v, ev F'.ks v m = allF v fs := by
  obtain ⟨fvs, ⟨A, b, off, cap, rfl, hnc, hA, hc⟩, hfs⟩ := hf
  have H := hide h
  have HV := hide hv
  have HR := hide hr
  have HC := hide hc
  have HA := hide hA
  have HFS := hide hfs
  have h2 := h.wf.two
  clear h hv hr hc hA hfs
  go_enter Tryd.func44, Tryd.ntmps44
  go_wp2
  go_loopw [5, 10] (fun n i wr => ∃ (k m : Nat) (F1 : Fo), k ≤ fs.length ∧ i = .int .i64 k ∧ n = .int .i64 m ∧ Hid (OpR (102 * k) w F wr F1) ∧ m < F1.ks.length ∧ Hid (∀ v, ev F1.ks v m = allF v (fs.take k))) (fun _ i _ => fs.length - (intOf i).toNat)
  case atStart => exact ⟨0, 1, F, Nat.zero_le _, rfl, rfl, OpR.refl H.out _, by omega, fun v => rfl⟩
  case round =>
    obtain ⟨k, m, F1, hk, rfl, rfl, hop, hm, hev⟩ := hrel
    by_cases hlt : k < fs.length
    · obtain ⟨rfl, hbb⟩ : A = some ⟨b, off, none⟩ ∧ b < F.base := by
        rcases HA.out with h | h
        · exact h
        · omega
      obtain ⟨f, hf⟩ : ∃ f, fs.getD k [] = f := ⟨_, rfl⟩
      have hfv : validF F.N f = true := HV.out f (by rw [← hf]; exact getD_mem hlt)
      have hbl := hop.out.st.below H.out hB
      have c0 : wr.cell? ⟨b, off + k, none⟩ = some (fvs k) := by
        have h1 := HC.out k 0 hlt (by omega)
        rw [Nat.mul_one, Nat.add_zero] at h1
        exact (hbl.cell (p := ⟨b, off + k, none⟩) hbb).trans h1
      have hin : Ints wr F.base (fvs k) f := by
        have := (HFS.out k hlt).below hbl
        rwa [hf] at this
      obtain ⟨Af, capf, hfe⟩ := Sl.form hin
      have hr1 : Room F1 102 := Room.step (k := 102 * k) (HR.out.mono (by omega)) hop.out
      have hl100 := (validF_pos hfv).2
      have hle0 := hop.out.st.keep.size
      have hgr := grow_any F1 f (fvs k) wr hop.out.st.here (by rw [hop.out.st.ba]; omega) (by rw [hop.out.st.N]; exact hfv) (by rw [hop.out.st.ba]; exact hin) (hr1.mono (by omega))
      rw [hop.out.st.p] at hgr
      rw [hfe] at hgr c0
      have HGR := hide hgr
      have HF := hide hf
      have HFV := hide hfv
      have HR1 := hide hr1
      clear hf hfv hbl hin hfe hr1 hgr
      go_wp2_with (go_at_call 30; refine HGR.out.mono ?_; rintro e w1 ⟨g, F2, rfl, r1, r2, r3⟩; have R1 := hide r1; have R3 := hide r3; clear r1 r3)
      have hle1 := R1.out.st.le
      have hnd : NodesAt (w1.alloc (.cells #[.int .i64 m, .int .i64 g] 3)) w1.heap.size [m, g] := heap_new _ _ _ rfl
      have hF2 : FoAt (w1.alloc (.cells #[.int .i64 m, .int .i64 g] 3)) F2 := R1.out.st.here.below ((Below.refl _ _).alloc (Nat.le_refl _) _)
      have hnd2 : ¬ SF F2 w1.heap.size := fun e => by have := R1.out.st.here.slt e; omega
      have hr2 : Room F2 2 := Room.step (k := f.length) (HR1.out.mono (by omega)) R1.out
      have han := and_any F2 w1.heap.size [m, g] _ hF2 (by intro n hn; simp at hn; rcases hn with rfl | rfl <;> omega) hnd hnd2 (by simp) hr2
      rw [R1.out.st.p, hop.out.st.p] at han
      have HAN := hide han
      clear hnd hF2 hnd2 hr2 han
      go_wp2_with (go_at_call 29; refine HAN.out.mono ?_; rintro e w2 ⟨x, F3, rfl, r1, r2', r3⟩; have R4 : Hid (OpR 2 w1 F2 w2 F3) := OpR.after_below R1.out.st.here ((Below.refl _ _).alloc (Nat.le_refl _) _) r1; have R6 := hide r3; clear r1 r3)
      go_roundw
      case rel =>
        refine ⟨k + 1, x, F3, by omega, by go_num, rfl, ((hop.out.trans R1.out).trans R4.out).mono (by omega), r2', fun v => ?_⟩
        rw [R6.out v, take_getD (z := []) hlt, allF_snoc, HF.out, List.all_cons, List.all_cons, List.all_nil, R3.out v, R1.out.st.ev hop.out.st.here.wf hm, hev.out v]
        simp
      case measure => simp [intOf]; omega
    · go_wp2
      go_ret
      obtain rfl : k = fs.length := by omega
      exact ⟨m, F1, rfl, hop.out, hm, fun v => by rw [hev.out v, List.take_length]⟩
end Go.Proofs.YtjimbcklnnhloaaDoor
/- How many variants a node holds in: walk. -/
namespace Go.Proofs.YtjimbcklnnhloaaDoor
open Go.RowKit
open Go.Maps (Keyed)
set_option linter.unusedVariables false
set_option linter.unusedSimpArgs false
def enN (n : Nat) : Value := .int .i64 n
theorem enN_inj (a b : Nat) (h : enN a = enN b) : a = b := by
  unfold enN at h
  injection h with _ h
  omega
theorem enKey {n : Nat} (h : I63 n) : ∃ l, keyOf Tryd.prog 3 (enN n) = some l := ⟨_, Maps.keyOf_int_mk Tryd.underlying3 (wf63 h)⟩
theorem inLaw : Keyed Tryd.prog 3 := Maps.int_keyed Tryd.underlying3
/-- What the map of counts holds is right. -/
def CntOk (ks : List Kn) (N : Nat) (m : Nat → Option Int) : Prop := ∀ n x, m n = some x → n < ks.length ∧ x = (cntK ks N n (topK ks n) : Nat)
structure CntR (F : Fo) (kb d : Nat) (w : World) (cnt : Nat) (w' : World) (m' : Nat → Option Int) (cnt' : Nat) : Prop where
  keep : Keeps (fun k => k = kb) w w'
  map : MapIs Tryd.prog w' 3 3 kb cnt' enN m'
  ok : CntOk F.ks F.N m'
  cnt : cnt' + 1 ≤ cnt + 2 ^ (d + 1)

theorem ret_int {k : IntKind} {a b : Int} (h : a = b) : Ending.returned (.int k a) = .returned (.int k b) := by rw [h]
theorem shl_cnt {N : Nat} {ks : List Kn} (hw : WF N ks) (hN : N ≤ 20) {n o k : Nat} (hn : n < ks.length) (hk : topK ks n = o + k) : wrap64 ((cntK ks N n (topK ks n) : Int) * 2 ^ min k 64) = (cntK ks N n o : Nat) ∧ wrap64 ((cntK ks N n (topK ks n) : Int) * 2 ^ k) = (cntK ks N n o : Nat) := by
  have h1 := cntK_lift hw hn k o hk.symm
  have h2 := cntK_le ks N n o
  have h3 := hw.top_le n hn
  have h4 : (2 : Nat) ^ (N - o) ≤ 2 ^ 20 := Nat.pow_le_pow_right (by omega) (by omega)
  have h5 : min k 64 = k := by omega
  rw [h5, h1]
  refine (fun h => ⟨h, h⟩) ?_
  have h6 : ((cntK ks N n (topK ks n) * 2 ^ k : Nat) : Int) = (cntK ks N n (topK ks n) : Int) * 2 ^ k := by simp
  rw [← h6, IntWalk.wrap64_in _ (by omega)]
set_option maxRecDepth 100000 in
theorem countZero_any (F : Fo) (kb o : Nat) (w : World) :
    Calls Tryd.prog 28 #[.pointer (some ⟨F.p, 0, none⟩), .int .i64 0, .int .i64 o, .map (some kb)] w
      fun e w' => e = .returned (.int .i64 0) ∧ w = w' := by
  go_enter Tryd.func28, Tryd.ntmps28
  go_wp2_with fail
  go_ret
  exact ⟨rfl, rfl⟩
set_option maxRecDepth 100000 in
set_option maxHeartbeats 2000000 in
theorem countHit_any (F : Fo) (kb : Nat) (hN : F.N ≤ 20) (d n o x : Nat) (w : World) (m : Nat → Option Int) (cnt : Nat) (h : FoAt w F) (hn : n < F.ks.length) (h0 : n ≠ 0) (ho : o ≤ topK F.ks n) (hm : MapIs Tryd.prog w 3 3 kb cnt enN m) (hx : m n = some ((cntK F.ks F.N n (topK F.ks n) : Nat) : Int)) :
    Calls Tryd.prog 28 #[.pointer (some ⟨F.p, 0, none⟩), .int .i64 n, .int .i64 o, .map (some kb)] w
      fun e w' => e = .returned (.int .i64 (cntK F.ks F.N n o : Nat)) ∧ w = w' := by
  have h01 : ((n : Int) == 0) = false := by simp; omega
  obtain ⟨kl, hkl⟩ := enKey (n := n) (by have := h.small; unfold I63; omega)
  have hlk : (Instr.lookup 73 (.map (some kb)) (.int .i64 n) true).run Tryd.prog w = .ok (.tuple #[.int .i64 ((m n).getD 0), .bool (m n).isSome]) w := hm.look inLaw Tryd.underlying73 Tryd.underlying3 (zInt w) hkl
  have hsm := h.small
  have hi0 : (0 : Int) ≤ (n : Int) := by omega
  have hi1 : (n : Int) < (F.ks.length : Int) := by omega
  have c1 := h.cellS
  obtain ⟨k0, k1, k2⟩ := h.knot hn
  rw [hx] at hlk
  simp only [Option.getD_some, Option.isSome_some] at hlk
  obtain ⟨k, hk⟩ : ∃ k, topK F.ks n = o + k := ⟨topK F.ks n - o, by omega⟩
  have hsub : (topK F.ks n : Int) - (o : Int) = (k : Int) := by omega
  have hk0 : (0 : Int) ≤ (k : Int) := by omega
  have hk20 : (k : Int) ≤ 1000 := by have := h.wf.top_le n hn; omega
  have HF := hide (shl_cnt h.wf hN hn hk)
  clear h hm hx hkl hk h0 hsm
  go_enter Tryd.func28, Tryd.ntmps28
  go_wp2_with fail
  go_ret
  exact ⟨ret_int HF.out.1, rfl⟩
set_option maxRecDepth 100000 in
set_option maxHeartbeats 2000000 in
theorem countOne_any (F : Fo) (kb : Nat) (hnb : ¬ SF F kb) (hN : F.N ≤ 20) (d o : Nat) (w : World) (m : Nat → Option Int) (cnt : Nat) (h : FoAt w F) (ho : o ≤ F.N) (hm : MapIs Tryd.prog w 3 3 kb cnt enN m) (hok : CntOk F.ks F.N m) (hc : cnt + 2 ^ (d + 1) ≤ 1073741824) (hx : m 1 = none) :
    Calls Tryd.prog 28 #[.pointer (some ⟨F.p, 0, none⟩), .int .i64 1, .int .i64 o, .map (some kb)] w
      fun e w' => ∃ m' cnt', e = .returned (.int .i64 (cntK F.ks F.N 1 o : Nat)) ∧ CntR F kb d w cnt w' m' cnt' := by
  have h2 := h.wf.two
  have ht1 := h.wf.top1
  obtain ⟨kl, hkl⟩ := enKey (n := 1) (by unfold I63; omega)
  have hlk : (Instr.lookup 73 (.map (some kb)) (.int .i64 1) true).run Tryd.prog w = .ok (.tuple #[.int .i64 ((m 1).getD 0), .bool (m 1).isSome]) w := hm.look inLaw Tryd.underlying73 Tryd.underlying3 (zInt w) hkl
  have hsm := h.small
  have hi1 : (1 : Int) < (F.ks.length : Int) := by omega
  have hi2 : 1 < F.ks.length := by omega
  have c1 := h.cellS
  obtain ⟨k0, k1, k2⟩ := h.knot (n := 1) (by omega)
  simp only [Nat.one_mul] at k0 k1 k2
  rw [hx] at hlk
  simp only [Option.getD_none, Option.isSome_none] at hlk
  obtain ⟨k, hk⟩ : ∃ k, topK F.ks 1 = o + k := ⟨topK F.ks 1 - o, by omega⟩
  have hsub : (topK F.ks 1 : Int) - (o : Int) = (k : Int) := by omega
  have hk0 : (0 : Int) ≤ (k : Int) := by omega
  have hk20 : (k : Int) ≤ 1000 := by omega
  have hone : cntK F.ks F.N 1 (topK F.ks 1) = 1 := by rw [ht1]; exact cntK_one
  have hfin := shl_cnt h.wf hN (show 1 < F.ks.length by omega) hk
  have hput := hone
  rw [hone] at hfin
  have HF := hide hfin
  have HM := hide hm
  have HOK := hide hok
  have HONE := hide hone
  have hp := pow_pos2 d
  have HC : Hid (cnt + 1 + 1 ≤ cnt + 2 ^ (d + 1)) := by show cnt + 1 + 1 ≤ _; rw [Nat.pow_succ]; omega
  have HKL := hide hkl
  have hcn : cnt < maxLen := by unfold maxLen; omega
  clear h hm hx hkl hk hsm hok hone hput hfin ht1
  go_enter Tryd.func28, Tryd.ntmps28
  go_wp2_with (at_mapUpdate; go_must (refine wpList_put _ rfl _ _ _ 73 rfl HM.out inLaw Tryd.underlying73 Tryd.underlying3 enN_inj hcn 1 ⟨_, HKL.out⟩ 1 (by decide) rfl rfl rfl ?_); intro w9 hm9 hg9; have HM9 := hide hm9; have HG9 := hide hg9; clear hm9 hg9)
  go_ret
  have hfo : wrap64 (2 ^ min k 64) = (cntK F.ks F.N 1 o : Nat) := by
    have h1 := HF.out.1
    simpa using h1
  exact ⟨_, _, ret_int hfo, ⟨Keeps.of_grown HG9.out (fun k hk => by injection hk with hk; exact hk.symm), HM9.out, fun n x hx => by
    unfold putM at hx
    split at hx
    · rename_i e
      injection hx with hx
      rw [e, HONE.out]
      exact ⟨hi2, hx.symm⟩
    · exact HOK.out n x hx, HC.out⟩⟩

set_option maxRecDepth 100000 in
set_option maxHeartbeats 4000000 in
theorem count_any (F : Fo) (kb : Nat) (hnb : ¬ SF F kb) (hN : F.N ≤ 20) : ∀ (d n o : Nat) (w : World) (m : Nat → Option Int) (cnt : Nat), FoAt w F → n < F.ks.length → F.N - topK F.ks n ≤ d → o ≤ topK F.ks n → MapIs Tryd.prog w 3 3 kb cnt enN m → CntOk F.ks F.N m → cnt + 2 ^ (d + 1) ≤ 1073741824 →
    Calls Tryd.prog 28 #[.pointer (some ⟨F.p, 0, none⟩), .int .i64 n, .int .i64 o, .map (some kb)] w
      fun e w' => ∃ m' cnt', e = .returned (.int .i64 (cntK F.ks F.N n o : Nat)) ∧ CntR F kb d w cnt w' m' cnt' := by
  intro d
  induction d with
  | zero =>
    intro n o w m cnt h hn hd ho hm hok hc
    by_cases h0 : n = 0
    · subst h0
      refine (countZero_any F kb o w).mono ?_
      rintro e w' ⟨rfl, rfl⟩
      exact ⟨m, cnt, by rw [cntK_zero]; rfl, ⟨Keeps.refl _ _, hm, hok, by omega⟩⟩
    · have h1 : n = 1 := by
        rcases Nat.lt_or_ge n 2 with h2 | h2
        · omega
        · have := h.wf.opt n h2 hn; omega
      subst h1
      rw [h.wf.top1] at ho
      cases hx : m 1 with
      | none => exact countOne_any F kb hnb hN 0 o w m cnt h ho hm hok hc hx
      | some x =>
        have h2 := (hok 1 x hx).2
        refine (countHit_any F kb hN 0 1 o 0 w m cnt h hn h0 (by rw [h.wf.top1]; exact ho) hm (by rw [hx, h2])).mono ?_
        rintro e w' ⟨rfl, rfl⟩
        exact ⟨m, cnt, rfl, ⟨Keeps.refl _ _, hm, hok, by omega⟩⟩
  | succ d ih =>
    intro n o w m cnt h hn hd ho hm hok hc
    by_cases h0 : n = 0
    · subst h0
      refine (countZero_any F kb o w).mono ?_
      rintro e w' ⟨rfl, rfl⟩
      have := pow_pos2 (d + 1 + 1)
      exact ⟨m, cnt, by rw [cntK_zero]; rfl, ⟨Keeps.refl _ _, hm, hok, by omega⟩⟩
    cases hx : m n with
    | some x =>
      have h2 := (hok n x hx).2
      refine (countHit_any F kb hN 0 n o 0 w m cnt h hn h0 ho hm (by rw [hx, h2])).mono ?_
      rintro e w' ⟨rfl, rfl⟩
      have := pow_pos2 (d + 1 + 1)
      exact ⟨m, cnt, rfl, ⟨Keeps.refl _ _, hm, hok, by omega⟩⟩
    | none =>
    by_cases h1 : n = 1
    · subst h1
      rw [h.wf.top1] at ho
      exact countOne_any F kb hnb hN (d + 1) o w m cnt h ho hm hok hc hx
    have h01 : ((n : Int) == 0) = false := by simp; omega
    have h02 : ((n : Int) != 1) = true := by simp; omega
    have hn2 : 2 ≤ n := by omega
    obtain ⟨kl, hkl⟩ := enKey (n := n) (by have := h.small; unfold I63; omega)
    have hlk : (Instr.lookup 73 (.map (some kb)) (.int .i64 n) true).run Tryd.prog w = .ok (.tuple #[.int .i64 ((m n).getD 0), .bool (m n).isSome]) w := hm.look inLaw Tryd.underlying73 Tryd.underlying3 (zInt w) hkl
    rw [hx] at hlk
    simp only [Option.getD_none, Option.isSome_none] at hlk
    have hsm := h.small
    have hi0 : (0 : Int) ≤ (n : Int) := by omega
    have hi1 : (n : Int) < (F.ks.length : Int) := by omega
    have c1 := h.cellS
    obtain ⟨k0, k1, k2⟩ := h.knot hn
    obtain ⟨l0, l1, l2, l3⟩ := h.lts
    have ll := h.wf.low n hn2 hn
    have lh := h.wf.high n hn2 hn
    have tl := h.wf.topl n hn2 hn
    have th := h.wf.toph n hn2 hn
    have tN := h.wf.opt n hn2 hn
    have hnode := cntK_node h.wf hn2 hn
    have b1 := cntK_le F.ks F.N (lowK F.ks n) (topK F.ks n + 1)
    have b2 := cntK_le F.ks F.N (highK F.ks n) (topK F.ks n + 1)
    have hp20 : (2 : Nat) ^ (F.N - (topK F.ks n + 1)) ≤ 2 ^ 20 := Nat.pow_le_pow_right (by omega) (by omega)
    obtain ⟨lo, hlo⟩ : ∃ lo, lowK F.ks n = lo := ⟨_, rfl⟩
    obtain ⟨hi, hhi⟩ : ∃ hi, highK F.ks n = hi := ⟨_, rfl⟩
    obtain ⟨t, ht⟩ : ∃ t, topK F.ks n = t := ⟨_, rfl⟩
    rw [hlo] at ll tl k1 hnode b1
    rw [hhi] at lh th k2 hnode b2
    obtain ⟨k, hk⟩ : ∃ k, topK F.ks n = o + k := ⟨topK F.ks n - o, by omega⟩
    have hfin := shl_cnt h.wf hN hn hk
    rw [ht] at k0 tl th tN hnode b1 b2 hd ho hk hp20 hfin
    have hdl : F.N - topK F.ks lo ≤ d := by omega
    have hdh : F.N - topK F.ks hi ≤ d := by omega
    obtain ⟨x, hxe⟩ : ∃ x, cntK F.ks F.N lo (t + 1) = x := ⟨_, rfl⟩
    obtain ⟨y, hye⟩ : ∃ y, cntK F.ks F.N hi (t + 1) = y := ⟨_, rfl⟩
    obtain ⟨z, hze⟩ : ∃ z, cntK F.ks F.N n t = z := ⟨_, rfl⟩
    rw [hxe] at b1
    rw [hye] at b2
    rw [hxe, hye, hze] at hnode
    rw [hze] at hfin
    have hsum : IntKind.i64.wrap ((x : Int) + (y : Int)) = (z : Int) := by rw [IntWalk.i64_in _ (by omega)]; omega
    have hz63 : (Lit.int .i64 (z : Int)).wf = true := wf63 (by unfold I63; omega)
    have hsub : (t : Int) - (o : Int) = (k : Int) := by omega
    have hk0 : (0 : Int) ≤ (k : Int) := by omega
    have hk20 : (k : Int) ≤ 1000 := by omega
    have ht1 : IntKind.i64.wrap ((t : Int) + 1) = (t : Int) + 1 := IntWalk.i64_in _ (by omega)
    have hcast : ((t + 1 : Nat) : Int) = (t : Int) + 1 := by omega
    have hpw : 2 ^ (d + 1 + 1) = 2 ^ (d + 1) + 2 ^ (d + 1) := by rw [Nat.pow_succ]; omega
    have hpp := pow_pos2 (d + 1)
    have hih1 := ih lo (t + 1) w.drew m cnt (h.same fun _ _ => rfl) (by omega) hdl (by omega) (hm.same rfl) hok (by omega)
    rw [hcast, hxe] at hih1
    have HIH2 : Hid (∀ (w1 : World) (m1 : Nat → Option Int) (cnt1 : Nat), CntR F kb d w.drew cnt w1 m1 cnt1 →
        Calls Tryd.prog 28 #[.pointer (some ⟨F.p, 0, none⟩), .int .i64 hi, .int .i64 ((t : Int) + 1), .map (some kb)] w1
          fun e w' => ∃ m' cnt', e = .returned (.int .i64 (y : Nat)) ∧ CntR F kb d w1 cnt1 w' m' cnt') := by
      intro w1 m1 cnt1 r
      have h1 := ih hi (t + 1) w1 m1 cnt1 ((h.same (w' := w.drew) fun _ _ => rfl).keeps r.keep (fun k hk e => hnb (e ▸ hk))) (by omega) hdh (by omega) r.map r.ok (by have := r.cnt; have := pow_pos2 (d + 1); omega)
      rw [hcast, hye] at h1
      exact h1
    have m1 : ¬ F.p = kb := fun e => hnb (.inl e.symm)
    have m2 : ¬ F.kb = kb := fun e => hnb (.inr (.inr (.inr e.symm)))
    have HIH1 := hide hih1
    have HF := hide hfin
    have HOK := hide hok
    have HKL := hide hkl
    have HT := hide (And.intro ht hze)
    have HC : Hid (cnt + 2 ^ (d + 1 + 1) ≤ 1073741824 ∧ 2 ^ (d + 1 + 1) = 2 ^ (d + 1) + 2 ^ (d + 1)) := ⟨hc, hpw⟩
    clear hih1 hfin hok hkl ht hze hm h hxe hye ih hlo hhi hnode hx hcast hpw hc hk
    go_enter Tryd.func28, Tryd.ntmps28
    go_upto_region 8 with (fail)
    refine wp_region_held_drew (S := (fun w' => Keeps (fun k => k = kb) w w')) (by kernel_rfl) ?_ (fun hHeld => ?_)
    · try dsimp only
      (repeat (first | (with_reducible exact Keeps.refl _ _) | exact hKeep.out | exact hKeepS.out _ | assumption | (with_reducible refine Keeps.drew ?_) | (with_reducible refine Keeps.drewN ?_ _) | (with_reducible refine Keeps.alloc ?_ _) | (with_reducible refine Keeps.setCell ?_ (.inl (by first | exact .inl rfl | exact .inr rfl)) _)))
    refine wpAnyH_take (i := 0) (v := ?v1_1) rfl (by kernel_rfl) (by kernel_rfl) (by kernel_rfl) (fun _ _ _ h => h) (Or.inl ⟨by rfl, ?y1_1⟩) (by assumption) ?r1_1
    case' y1_1 => (intro w hSw; (try dsimp only at hSw); (try have hlS := HLK.out _ hSw); have hcS := kcell1 hSw; clear hSw; go_simp; try with_reducible rfl)
    try simp only [Act.put, List.getElem_toArray, List.getElem_cons_succ, List.getElem_cons_zero, List.setIfInBounds_toArray, List.set_cons_zero, List.set_cons_succ]
    refine wpAnyH_take (i := 1) (v := ?v1_2) rfl (by kernel_rfl) (by kernel_rfl) (by kernel_rfl) (fun _ _ _ h => h) (Or.inl ⟨by rfl, ?y1_2⟩) (by assumption) ?r1_2
    case' y1_2 => (intro w hSw; (try dsimp only at hSw); (try have hlS := HLK.out _ hSw); have hcS := kcell1 hSw; clear hSw; go_simp; try with_reducible rfl)
    try simp only [Act.put, List.getElem_toArray, List.getElem_cons_succ, List.getElem_cons_zero, List.setIfInBounds_toArray, List.set_cons_zero, List.set_cons_succ]
    refine wpAnyH_take (i := 2) (v := ?v1_3) rfl (by kernel_rfl) (by kernel_rfl) (by kernel_rfl) (fun _ _ _ h => h) (Or.inl ⟨by rfl, ?y1_3⟩) (by assumption) ?r1_3
    case' y1_3 => (intro w hSw; (try dsimp only at hSw); (try have hlS := HLK.out _ hSw); have hcS := kcell1 hSw; clear hSw; go_simp; try with_reducible rfl)
    try simp only [Act.put, List.getElem_toArray, List.getElem_cons_succ, List.getElem_cons_zero, List.setIfInBounds_toArray, List.set_cons_zero, List.set_cons_succ]
    refine wpAnyH_take (i := 3) (v := ?v1_4) rfl (by kernel_rfl) (by kernel_rfl) (by kernel_rfl) (fun _ _ _ h => h) (Or.inl ⟨by rfl, ?y1_4⟩) (by assumption) ?r1_4
    case' y1_4 => (intro w hSw; (try dsimp only at hSw); (try have hlS := HLK.out _ hSw); have hcS := kcell1 hSw; clear hSw; go_simp; try with_reducible rfl)
    try simp only [Act.put, List.getElem_toArray, List.getElem_cons_succ, List.getElem_cons_zero, List.setIfInBounds_toArray, List.set_cons_zero, List.set_cons_succ]
    refine wpAnyH_take (i := 4) (v := ?v1_5) rfl (by kernel_rfl) (by kernel_rfl) (by kernel_rfl) (fun _ _ _ h => h) (Or.inl ⟨by rfl, ?y1_5⟩) (by assumption) ?r1_5
    case' y1_5 => (intro w hSw; (try dsimp only at hSw); (try have hlS := HLK.out _ hSw); have hcS := kcell1 hSw; clear hSw; go_simp; try with_reducible rfl)
    try simp only [Act.put, List.getElem_toArray, List.getElem_cons_succ, List.getElem_cons_zero, List.setIfInBounds_toArray, List.set_cons_zero, List.set_cons_succ]
    refine wpAnyH_take (i := 5) (v := ?v1_6) rfl (by kernel_rfl) (by kernel_rfl) (by kernel_rfl) (fun _ _ _ h => h) (Or.inl ⟨by rfl, ?y1_6⟩) (by assumption) ?r1_6
    case' y1_6 => (intro w hSw; (try dsimp only at hSw); (try have hlS := HLK.out _ hSw); have hcS := kcell1 hSw; clear hSw; go_simp; try with_reducible rfl)
    try simp only [Act.put, List.getElem_toArray, List.getElem_cons_succ, List.getElem_cons_zero, List.setIfInBounds_toArray, List.set_cons_zero, List.set_cons_succ]
    refine wpAnyH_take (i := 6) (v := ?v1_7) rfl (by kernel_rfl) (by kernel_rfl) (by kernel_rfl) (fun _ _ _ h => h) (Or.inl ⟨by rfl, ?y1_7⟩) (by assumption) ?r1_7
    case' y1_7 => (intro w hSw; (try dsimp only at hSw); (try have hlS := HLK.out _ hSw); have hcS := kcell1 hSw; clear hSw; go_simp; try with_reducible rfl)
    try simp only [Act.put, List.getElem_toArray, List.getElem_cons_succ, List.getElem_cons_zero, List.setIfInBounds_toArray, List.set_cons_zero, List.set_cons_succ]
    refine wpAnyH_take (i := 7) (v := ?v1_8) rfl (by kernel_rfl) (by kernel_rfl) (by kernel_rfl) (fun _ _ _ h => h) (Or.inl ⟨by rfl, ?y1_8⟩) (by assumption) ?r1_8
    case' y1_8 => (intro w hSw; (try dsimp only at hSw); (try have hlS := HLK.out _ hSw); have hcS := kcell1 hSw; clear hSw; go_simp; try with_reducible rfl)
    try simp only [Act.put, List.getElem_toArray, List.getElem_cons_succ, List.getElem_cons_zero, List.setIfInBounds_toArray, List.set_cons_zero, List.set_cons_succ]
    refine wpAnyH_take (i := 8) (v := ?v1_9) rfl (by kernel_rfl) (by kernel_rfl) (by kernel_rfl) (fun _ _ _ h => h) (Or.inl ⟨by rfl, ?y1_9⟩) (by assumption) ?r1_9
    case' y1_9 => (intro w hSw; (try dsimp only at hSw); (try have hlS := HLK.out _ hSw); have hcS := kcell1 hSw; clear hSw; go_simp; try with_reducible rfl)
    try simp only [Act.put, List.getElem_toArray, List.getElem_cons_succ, List.getElem_cons_zero, List.setIfInBounds_toArray, List.set_cons_zero, List.set_cons_succ]
    refine wpAnyH_take (i := 9) (v := ?v1_10) rfl (by kernel_rfl) (by kernel_rfl) (by kernel_rfl) (fun _ _ _ h => h) (Or.inl ⟨by rfl, ?y1_10⟩) (by assumption) ?r1_10
    case' y1_10 => (intro w hSw; (try dsimp only at hSw); (try have hlS := HLK.out _ hSw); have hcS := kcell1 hSw; clear hSw; go_simp; try with_reducible rfl)
    try simp only [Act.put, List.getElem_toArray, List.getElem_cons_succ, List.getElem_cons_zero, List.setIfInBounds_toArray, List.set_cons_zero, List.set_cons_succ]
    refine wpAnyH_take (i := 10) (v := ?v1_11) rfl (by kernel_rfl) (by kernel_rfl) (by kernel_rfl) (fun _ _ _ h => h) (Or.inl ⟨by rfl, ?y1_11⟩) (by assumption) ?r1_11
    case' y1_11 => (intro w hSw; (try dsimp only at hSw); (try have hlS := HLK.out _ hSw); have hcS := kcell1 hSw; clear hSw; go_simp; try with_reducible rfl)
    try simp only [Act.put, List.getElem_toArray, List.getElem_cons_succ, List.getElem_cons_zero, List.setIfInBounds_toArray, List.set_cons_zero, List.set_cons_succ]
    refine wpAnyH_take (i := 11) (v := ?v1_12) rfl (by kernel_rfl) (by kernel_rfl) (by kernel_rfl) (fun _ _ _ h => h) (Or.inl ⟨by rfl, ?y1_12⟩) (by assumption) ?r1_12
    case' y1_12 => (intro w hSw; (try dsimp only at hSw); (try have hlS := HLK.out _ hSw); have hcS := kcell1 hSw; clear hSw; go_simp; try with_reducible rfl)
    try simp only [Act.put, List.getElem_toArray, List.getElem_cons_succ, List.getElem_cons_zero, List.setIfInBounds_toArray, List.set_cons_zero, List.set_cons_succ]
    refine wpAnyH_take (i := 13) (v := ?v1_13) rfl (by kernel_rfl) (by kernel_rfl) (by kernel_rfl) (fun _ _ _ h => h) (Or.inl ⟨by rfl, ?y1_13⟩) (by assumption) ?r1_13
    case' y1_13 => (intro w hSw; (try dsimp only at hSw); (try have hlS := HLK.out _ hSw); have hcS := kcell1 hSw; clear hSw; go_simp; try with_reducible rfl)
    try simp only [Act.put, List.getElem_toArray, List.getElem_cons_succ, List.getElem_cons_zero, List.setIfInBounds_toArray, List.set_cons_zero, List.set_cons_succ]
    refine wpAnyH_take (i := 14) (v := ?v1_14) rfl (by kernel_rfl) (by kernel_rfl) (by kernel_rfl) (fun _ _ _ h => h) (Or.inl ⟨by rfl, ?y1_14⟩) (by assumption) ?r1_14
    case' y1_14 => (intro w hSw; (try dsimp only at hSw); (try have hlS := HLK.out _ hSw); have hcS := kcell1 hSw; clear hSw; go_simp; try with_reducible rfl)
    try simp only [Act.put, List.getElem_toArray, List.getElem_cons_succ, List.getElem_cons_zero, List.setIfInBounds_toArray, List.set_cons_zero, List.set_cons_succ]
    refine wpAnyH_take (i := 15) (v := ?v1_15) rfl (by kernel_rfl) (by kernel_rfl) (by kernel_rfl) (fun _ _ _ h => h) (Or.inl ⟨by rfl, ?y1_15⟩) (by assumption) ?r1_15
    case' y1_15 => (intro w hSw; (try dsimp only at hSw); (try have hlS := HLK.out _ hSw); have hcS := kcell1 hSw; clear hSw; go_simp; try with_reducible rfl)
    try simp only [Act.put, List.getElem_toArray, List.getElem_cons_succ, List.getElem_cons_zero, List.setIfInBounds_toArray, List.set_cons_zero, List.set_cons_succ]
    refine wpAnyH_take (i := 16) (v := ?v1_16) rfl (by kernel_rfl) (by kernel_rfl) (by kernel_rfl) (fun _ _ _ h => h) (Or.inl ⟨by rfl, ?y1_16⟩) (by assumption) ?r1_16
    case' y1_16 => (intro w hSw; (try dsimp only at hSw); (try have hlS := HLK.out _ hSw); have hcS := kcell1 hSw; clear hSw; go_simp; try with_reducible rfl)
    try simp only [Act.put, List.getElem_toArray, List.getElem_cons_succ, List.getElem_cons_zero, List.setIfInBounds_toArray, List.set_cons_zero, List.set_cons_succ]
    refine wpAnyH_take (i := 17) (v := ?v1_17) rfl (by kernel_rfl) (by kernel_rfl) (by kernel_rfl) (fun _ _ _ h => h) (Or.inl ⟨by rfl, ?y1_17⟩) (by assumption) ?r1_17
    case' y1_17 => (intro w hSw; (try dsimp only at hSw); (try have hlS := HLK.out _ hSw); have hcS := kcell1 hSw; clear hSw; go_simp; try with_reducible rfl)
    try simp only [Act.put, List.getElem_toArray, List.getElem_cons_succ, List.getElem_cons_zero, List.setIfInBounds_toArray, List.set_cons_zero, List.set_cons_succ]
    refine wpAnyH_take (i := 18) (v := ?v1_18) rfl (by kernel_rfl) (by kernel_rfl) (by kernel_rfl) (fun _ _ _ h => h) (Or.inl ⟨by rfl, ?y1_18⟩) (by assumption) ?r1_18
    case' y1_18 => (intro w hSw; (try dsimp only at hSw); (try have hlS := HLK.out _ hSw); have hcS := kcell1 hSw; clear hSw; go_simp; try with_reducible rfl)
    try simp only [Act.put, List.getElem_toArray, List.getElem_cons_succ, List.getElem_cons_zero, List.setIfInBounds_toArray, List.set_cons_zero, List.set_cons_succ]
    refine wpAnyH_take (i := 19) (v := ?v1_19) rfl (by kernel_rfl) (by kernel_rfl) (by kernel_rfl) (fun _ _ _ h => h) (Or.inl ⟨by rfl, ?y1_19⟩) (by assumption) ?r1_19
    case' y1_19 => (intro w hSw; (try dsimp only at hSw); (try have hlS := HLK.out _ hSw); have hcS := kcell1 hSw; clear hSw; go_simp; try with_reducible rfl)
    try simp only [Act.put, List.getElem_toArray, List.getElem_cons_succ, List.getElem_cons_zero, List.setIfInBounds_toArray, List.set_cons_zero, List.set_cons_succ]
    refine wpAnyH_take (i := 20) (v := ?v1_20) rfl (by kernel_rfl) (by kernel_rfl) (by kernel_rfl) (fun _ _ _ h => h) (Or.inl ⟨by rfl, ?y1_20⟩) (by assumption) ?r1_20
    case' y1_20 => (intro w hSw; (try dsimp only at hSw); (try have hlS := HLK.out _ hSw); have hcS := kcell1 hSw; clear hSw; go_simp; try with_reducible rfl)
    try simp only [Act.put, List.getElem_toArray, List.getElem_cons_succ, List.getElem_cons_zero, List.setIfInBounds_toArray, List.set_cons_zero, List.set_cons_succ]
    refine wpAnyH_take (i := 21) (v := ?v1_21) rfl (by kernel_rfl) (by kernel_rfl) (by kernel_rfl) (fun _ _ _ h => h) (Or.inl ⟨by rfl, ?y1_21⟩) (by assumption) ?r1_21
    case' y1_21 => (intro w hSw; (try dsimp only at hSw); (try have hlS := HLK.out _ hSw); have hcS := kcell1 hSw; clear hSw; go_simp; try with_reducible rfl)
    try simp only [Act.put, List.getElem_toArray, List.getElem_cons_succ, List.getElem_cons_zero, List.setIfInBounds_toArray, List.set_cons_zero, List.set_cons_succ]
    refine wpAnyH_take (i := 22) (v := ?v1_22) rfl (by kernel_rfl) (by kernel_rfl) (by kernel_rfl) (fun _ _ _ h => h) (Or.inl ⟨by rfl, ?y1_22⟩) (by assumption) ?r1_22
    case' y1_22 => (intro w hSw; (try dsimp only at hSw); (try have hlS := HLK.out _ hSw); have hcS := kcell1 hSw; clear hSw; go_simp; try with_reducible rfl)
    try simp only [Act.put, List.getElem_toArray, List.getElem_cons_succ, List.getElem_cons_zero, List.setIfInBounds_toArray, List.set_cons_zero, List.set_cons_succ]
    refine wpAnyH_take (i := 23) (v := ?v1_23) rfl (by kernel_rfl) (by kernel_rfl) (by kernel_rfl) (fun _ _ _ h => h) (Or.inl ⟨by rfl, ?y1_23⟩) (by assumption) ?r1_23
    case' y1_23 => (intro w hSw; (try dsimp only at hSw); (try have hlS := HLK.out _ hSw); have hcS := kcell1 hSw; clear hSw; go_simp; try with_reducible rfl)
    try simp only [Act.put, List.getElem_toArray, List.getElem_cons_succ, List.getElem_cons_zero, List.setIfInBounds_toArray, List.set_cons_zero, List.set_cons_succ]
    refine wpAnyH_take (i := 24) (v := ?v1_24) rfl (by kernel_rfl) (by kernel_rfl) (by kernel_rfl) (fun _ _ _ h => h) (Or.inl ⟨by rfl, ?y1_24⟩) (by assumption) ?r1_24
    case' y1_24 => (intro w hSw; (try dsimp only at hSw); (try have hlS := HLK.out _ hSw); have hcS := kcell1 hSw; clear hSw; go_simp; try with_reducible rfl)
    try simp only [Act.put, List.getElem_toArray, List.getElem_cons_succ, List.getElem_cons_zero, List.setIfInBounds_toArray, List.set_cons_zero, List.set_cons_succ]
    refine wpAnyH_ready (rs := [12]) (by kernel_rfl) (by simp) ?_
    refine (AllReadyH.cons rfl (fun K hK => ?_) AllReadyH.nil)
    go_simp
    (first | ((with_reducible refine HIH1.out.mono ?_); rintro e w1 ⟨m1', cnt1, rfl, r1⟩; have R1 := hide r1; have hKeep : Hid (Keeps (fun k => k = kb) w w1) := ⟨r1.keep.os, r1.keep.tape, r1.keep.output, r1.keep.size, r1.keep.block⟩; clear r1) | ((with_reducible refine (HIH2.out _ _ _ R1.out).mono ?_); rintro e w2 ⟨m2', cnt2, rfl, r2⟩; have R2 := hide r2; have hKeep2 : Hid (Keeps (fun k => k = kb) w w2) := hKeep.out.trans r2.keep (fun _ _ h => h); clear hKeep; have hKeep := hKeep2; clear r2 hKeep2))
    (try dsimp only)
    refine hK.out _ _ ?_ (fun hNext => ?_)
    · try dsimp only
      (repeat (first | (with_reducible exact Keeps.refl _ _) | exact hKeep.out | exact hKeepS.out _ | assumption | (with_reducible refine Keeps.drew ?_) | (with_reducible refine Keeps.drewN ?_ _) | (with_reducible refine Keeps.alloc ?_ _) | (with_reducible refine Keeps.setCell ?_ (.inl (by first | exact .inl rfl | exact .inr rfl)) _)))
    clear hK K hHeld
    have hHeld := hNext
    clear hNext
    (try dsimp only at hHeld)
    try simp only [Act.put, List.getElem_toArray, List.getElem_cons_succ, List.getElem_cons_zero, List.setIfInBounds_toArray, List.set_cons_zero, List.set_cons_succ]
    refine wpAnyH_ready (rs := [25]) (by kernel_rfl) (by simp) ?_
    refine (AllReadyH.cons rfl (fun K hK => ?_) AllReadyH.nil)
    go_simp
    (first | ((with_reducible refine HIH1.out.mono ?_); rintro e w1 ⟨m1', cnt1, rfl, r1⟩; have R1 := hide r1; have hKeep : Hid (Keeps (fun k => k = kb) w w1) := ⟨r1.keep.os, r1.keep.tape, r1.keep.output, r1.keep.size, r1.keep.block⟩; clear r1) | ((with_reducible refine (HIH2.out _ _ _ R1.out).mono ?_); rintro e w2 ⟨m2', cnt2, rfl, r2⟩; have R2 := hide r2; have hKeep2 : Hid (Keeps (fun k => k = kb) w w2) := hKeep.out.trans r2.keep (fun _ _ h => h); clear hKeep; have hKeep := hKeep2; clear r2 hKeep2))
    (try dsimp only)
    refine hK.out _ _ ?_ (fun hNext => ?_)
    · try dsimp only
      (repeat (first | (with_reducible exact Keeps.refl _ _) | exact hKeep.out | exact hKeepS.out _ | assumption | (with_reducible refine Keeps.drew ?_) | (with_reducible refine Keeps.drewN ?_ _) | (with_reducible refine Keeps.alloc ?_ _) | (with_reducible refine Keeps.setCell ?_ (.inl (by first | exact .inl rfl | exact .inr rfl)) _)))
    clear hK K hHeld
    have hHeld := hNext
    clear hNext
    (try dsimp only at hHeld)
    try simp only [Act.put, List.getElem_toArray, List.getElem_cons_succ, List.getElem_cons_zero, List.setIfInBounds_toArray, List.set_cons_zero, List.set_cons_succ]
    refine wpAnyH_take (i := 26) (v := ?v1_27) rfl (by kernel_rfl) (by kernel_rfl) (by kernel_rfl) (fun _ _ _ h => h) (Or.inl ⟨by rfl, ?y1_27⟩) (by assumption) ?r1_27
    case' y1_27 => (intro w hSw; (try dsimp only at hSw); (try have hlS := HLK.out _ hSw); have hcS := kcell1 hSw; clear hSw; go_simp; try with_reducible rfl)
    try simp only [Act.put, List.getElem_toArray, List.getElem_cons_succ, List.getElem_cons_zero, List.setIfInBounds_toArray, List.set_cons_zero, List.set_cons_succ]
    refine wpAnyH_take (i := 27) (v := ?v1_28) rfl (by kernel_rfl) (by kernel_rfl) (by kernel_rfl) (fun _ _ _ h => h) (Or.inl ⟨by rfl, ?y1_28⟩) (by assumption) ?r1_28
    case' y1_28 => (intro w hSw; (try dsimp only at hSw); (try have hlS := HLK.out _ hSw); have hcS := kcell1 hSw; clear hSw; go_simp; try with_reducible rfl)
    try simp only [Act.put, List.getElem_toArray, List.getElem_cons_succ, List.getElem_cons_zero, List.setIfInBounds_toArray, List.set_cons_zero, List.set_cons_succ]
    refine wpAnyH_done (by kernel_rfl) ?_ _
    have hcn : cnt2 < maxLen := by
      have h1 := R1.out.cnt
      have h2 := R2.out.cnt
      have h3 := HC.out
      unfold maxLen; omega
    go_wp2_with (at_mapUpdate; go_must (refine wpList_put _ rfl _ _ _ 73 rfl R2.out.map inLaw Tryd.underlying73 Tryd.underlying3 enN_inj hcn n ⟨_, HKL.out⟩ (z : Int) hz63 rfl rfl rfl ?_); intro w9 hm9 hg9; have HM9 := hide hm9; have HG9 := hide hg9; clear hm9 hg9)
    go_ret
    refine ⟨_, _, ret_int HF.out.2, ⟨hKeep.out.trans (Keeps.of_grown HG9.out (fun k hk => by injection hk with hk; exact hk.symm)) (fun _ _ h => h), HM9.out, fun n' x' hx' => ?_, ?_⟩⟩
    · unfold putM at hx'
      split at hx'
      · rename_i e
        injection hx' with hx'
        rw [e, HT.out.1, HT.out.2]
        exact ⟨hn, hx'.symm⟩
      · exact R2.out.ok n' x' hx'
    · have h1 := R1.out.cnt
      have h2 := R2.out.cnt
      have h3 := HC.out.2
      omega
end Go.Proofs.YtjimbcklnnhloaaDoor
/- Names: walks. -/
namespace Go.Proofs.YtjimbcklnnhloaaDoor
open Go.RowKit
set_option linter.unusedVariables false
set_option linter.unusedSimpArgs false
theorem getD_str (s : ByteArray) (k : Nat) (h : k < s.size) : s.data.toList.getD k 0 = s[k] := by
  have : k < s.data.size := h
  simp only [List.getD_eq_getElem?_getD, Array.getElem?_toList, Array.getElem?_eq_getElem this]
  rfl
theorem alN_of {c : UInt8} (h : (97 ≤ (c.toNat : Int) ∧ (c.toNat : Int) ≤ 122) ∨ (48 ≤ (c.toNat : Int) ∧ (c.toNat : Int) ≤ 57)) : alN c = true := by
  unfold alN
  simp only [Bool.or_eq_true, Bool.and_eq_true, decide_eq_true_eq]
  omega
theorem alN_not {c : UInt8} (h : ¬ ((97 ≤ (c.toNat : Int) ∧ (c.toNat : Int) ≤ 122) ∨ (48 ≤ (c.toNat : Int) ∧ (c.toNat : Int) ≤ 57))) : alN c = false := by
  have : ¬ alN c = true := by
    unfold alN
    simp only [Bool.or_eq_true, Bool.and_eq_true, decide_eq_true_eq]
    omega
  simpa using this
set_option maxRecDepth 100000 in
set_option maxHeartbeats 1000000 in
theorem word_any (s : ByteArray) (w : World) (hs : s.size ≤ maxLen) :
    Calls Tryd.prog 51 #[.string s] w fun e w' => e = .returned (.int .i64 (wordN s.data.toList : Nat)) ∧ w = w' := by
  unfold maxLen at hs
  go_enter Tryd.func51, Tryd.ntmps51
  go_wp2
  go_loop [7] (fun i => ∃ k : Nat, k ≤ s.size ∧ i = .int .i64 k ∧ Hid (∀ j, j < k → alN (s.data.toList.getD j 0) = true)) (fun i => s.size - (intOf i).toNat)
  case atStart => exact ⟨0, Nat.zero_le _, rfl, fun j hj => by omega⟩
  case round =>
    obtain ⟨k, hk, rfl, hall⟩ := hrel
    by_cases hlt : k < s.size
    · have hgd := getD_str s k hlt
      have hyes : alN s[k] = true → Hid (∀ j, j < k + 1 → alN (s.data.toList.getD j 0) = true) := fun h j hj => by
        rcases Nat.lt_or_ge j k with h1 | h1
        · exact hall.out j h1
        · rw [show j = k from by omega, hgd]; exact h
      have hno : alN s[k] = false → wordN s.data.toList = k := fun h => wordN_at _ k (by simpa using hlt) hall.out (by rw [hgd]; exact h)
      have HY := hide hyes
      have HN := hide hno
      clear hgd hyes hno
      by_cases hc : (97 ≤ (s[k].toNat : Int) ∧ (s[k].toNat : Int) ≤ 122) ∨ (48 ≤ (s[k].toNat : Int) ∧ (s[k].toNat : Int) ≤ 57)
      · have HC := hide (alN_of hc)
        rcases hc with ⟨h1, h2⟩ | ⟨h1, h2⟩
        · have h3 : ¬ (s[k].toNat : Int) < 97 := by omega
          have h4 : ¬ (122 : Int) < (s[k].toNat : Int) := by omega
          go_wp2
          go_round
          case rel => exact ⟨k + 1, by omega, by go_num, HY.out HC.out⟩
          case measure => simp [intOf]; omega
        · have h3 : (s[k].toNat : Int) < 97 := by omega
          have h4 : ¬ (s[k].toNat : Int) < 48 := by omega
          have h5 : ¬ (57 : Int) < (s[k].toNat : Int) := by omega
          go_wp2
          go_round
          case rel => exact ⟨k + 1, by omega, by go_num, HY.out HC.out⟩
          case measure => simp [intOf]; omega
      · have HC := hide (alN_not hc)
        by_cases h1 : (s[k].toNat : Int) < 97
        · by_cases h2 : (s[k].toNat : Int) < 48
          · clear hc
            go_wp2
            go_ret
            exact ⟨by rw [HN.out HC.out]; rfl, rfl⟩
          · have h3 : (57 : Int) < (s[k].toNat : Int) := by omega
            clear hc
            go_wp2
            go_ret
            exact ⟨by rw [HN.out HC.out]; rfl, rfl⟩
        · have h2 : (122 : Int) < (s[k].toNat : Int) := by omega
          have h3 : ¬ (s[k].toNat : Int) < 48 := by omega
          have h4 : (57 : Int) < (s[k].toNat : Int) := by omega
          clear hc
          go_wp2
          go_ret
          exact ⟨by rw [HN.out HC.out]; rfl, rfl⟩
    · have : k = s.size := by omega
      subst this
      go_wp2
      go_ret
      exact ⟨by rw [wordN_all _ (by simpa using hall.out)]; simp, rfl⟩
theorem smN_of {c : UInt8} (h1 : 97 ≤ (c.toNat : Int)) (h2 : (c.toNat : Int) ≤ 122) : smN c = true := by
  unfold smN
  simp only [Bool.and_eq_true, decide_eq_true_eq]
  omega
theorem smN_not {c : UInt8} (h : (c.toNat : Int) < 97 ∨ 122 < (c.toNat : Int)) : smN c = false := by
  have : ¬ smN c = true := by
    unfold smN
    simp only [Bool.and_eq_true, decide_eq_true_eq]
    omega
  simpa using this
theorem ret_bool {a b : Bool} (h : a = b) : Ending.returned (.bool a) = .returned (.bool b) := by rw [h]
theorem str_ne {s : ByteArray} {l : List UInt8} (h : s.data.toList ≠ l) : (s.toList == l) = false ∧ ¬ s.toList = l := by
  rw [← ByteArray.toList_eq] at h
  exact ⟨by simpa using h, h⟩
theorem str_eq {s : ByteArray} {l : List UInt8} (h : s.data.toList = l) : (s.toList == l) = true ∧ s.toList = l := by
  rw [← ByteArray.toList_eq] at h
  exact ⟨by simpa using h, h⟩
set_option maxRecDepth 100000 in
set_option maxHeartbeats 1000000 in
theorem named_any (s : ByteArray) (w : World) (hs : s.size ≤ maxLen) :
    Calls Tryd.prog 33 #[.string s] w fun e w' => e = .returned (.bool (namedB s.data.toList)) ∧ w = w' := by
  have hl : s.data.toList.length = s.size := by simp
  by_cases h1 : s.size < 1
  · have hf : namedB s.data.toList = false := by
      unfold namedB; rw [hl]; simp; omega
    have HF := hide hf
    have h2 : (s.size : Int) < 1 := by omega
    clear hf hl h1
    go_enter Tryd.func33, Tryd.ntmps33
    go_wp2
    go_ret
    exact ⟨ret_bool HF.out.symm, rfl⟩
  by_cases h2 : 8 < s.size
  · have hf : namedB s.data.toList = false := by
      unfold namedB; rw [hl]; simp; omega
    have HF := hide hf
    have h3 : (8 : Int) < (s.size : Int) := by omega
    have h4 : ¬ (s.size : Int) < 1 := by omega
    clear hf hl h1 h2
    go_enter Tryd.func33, Tryd.ntmps33
    go_wp2
    go_ret
    exact ⟨ret_bool HF.out.symm, rfl⟩
  have h3 : ¬ (s.size : Int) < 1 := by omega
  have h4 : ¬ (8 : Int) < (s.size : Int) := by omega
  have h0 : 0 < s.size := by omega
  have hg := getD_str s 0 h0
  by_cases hsm : smN s[0] = true
  · have hb : 97 ≤ (s[0].toNat : Int) ∧ (s[0].toNat : Int) ≤ 122 := by
      unfold smN at hsm
      simp only [Bool.and_eq_true, decide_eq_true_eq] at hsm
      omega
    obtain ⟨hb1, hb2⟩ := hb
    have hb3 : ¬ (s[0].toNat : Int) < 97 := by omega
    have hb4 : ¬ (122 : Int) < (s[0].toNat : Int) := by omega
    by_cases hy : s.data.toList = [121, 101, 115]
    · have hf : namedB s.data.toList = false := by unfold namedB; rw [hy]; rfl
      have HF := hide hf
      have hse : s = ⟨#[121, 101, 115]⟩ := by
        obtain ⟨d⟩ := s
        congr 1
        exact Array.toList_inj.1 hy
      subst hse
      clear hf hy hl hg hsm
      go_enter Tryd.func33, Tryd.ntmps33
      go_wp2
      go_ret
      exact ⟨ret_bool HF.out.symm, rfl⟩
    by_cases hn : s.data.toList = [110, 111]
    · have hf : namedB s.data.toList = false := by unfold namedB; rw [hn]; rfl
      have HF := hide hf
      have hse : s = ⟨#[110, 111]⟩ := by
        obtain ⟨d⟩ := s
        congr 1
        exact Array.toList_inj.1 hn
      subst hse
      clear hf hy hn hl hg hsm
      go_enter Tryd.func33, Tryd.ntmps33
      go_wp2
      go_ret
      exact ⟨ret_bool HF.out.symm, rfl⟩
    have hf : namedB s.data.toList = decide ((wordN s.data.toList : Int) = (s.size : Int)) := by
      unfold namedB
      rw [hl, hg, hsm]
      have e1 : decide (1 ≤ s.size) = true := by simp; omega
      have e2 : decide (s.size ≤ 8) = true := by simp; omega
      have e3 : decide (s.data.toList ≠ [121, 101, 115]) = true := by simpa using hy
      have e4 : decide (s.data.toList ≠ [110, 111]) = true := by simpa using hn
      rw [e1, e2, e3, e4]
      simp only [Bool.and_self, Bool.true_and]
      congr 1
      exact propext ⟨fun h => by omega, fun h => by omega⟩
    have HF := hide hf
    obtain ⟨k1, _⟩ := str_ne hy
    obtain ⟨k2, _⟩ := str_ne hn
    clear hf hy hn hl hg hsm
    go_enter Tryd.func33, Tryd.ntmps33
    go_wp2_with (go_at_call 51; refine (word_any s _ hs).mono ?_; rintro e w1 ⟨rfl, rfl⟩)
    go_ret
    exact ⟨ret_bool (by rw [HF.out]; rfl), rfl⟩
  · have hf : namedB s.data.toList = false := by
      unfold namedB; rw [hg]
      have : smN s[0] = false := by simpa using hsm
      rw [this]; simp
    have HF := hide hf
    have hb : (s[0].toNat : Int) < 97 ∨ ¬ (s[0].toNat : Int) < 97 ∧ 122 < (s[0].toNat : Int) := by
      unfold smN at hsm
      simp only [Bool.and_eq_true, decide_eq_true_eq] at hsm
      omega
    clear hf hl hg hsm
    rcases hb with hb | ⟨hb, hb2⟩
    · go_enter Tryd.func33, Tryd.ntmps33
      go_wp2
      go_ret
      exact ⟨ret_bool HF.out.symm, rfl⟩
    · go_enter Tryd.func33, Tryd.ntmps33
      go_wp2
      go_ret
      exact ⟨ret_bool HF.out.symm, rfl⟩
/-- The slice v holds the texts ns, below block B. -/
def Names (w : World) (B : Nat) (v : Value) (ns : List ByteArray) : Prop := Sl w B 1 v ns.length (fun i _ => .string (ns.getD i ByteArray.empty))
theorem Names.below {w w' : World} {B : Nat} {v : Value} {f : List ByteArray} (h : Names w B v f) (hb : Below B w w') : Names w' B v f := Sl.below h hb
theorem Names.more {w : World} {B B' : Nat} {v : Value} {f : List ByteArray} (h : Names w B v f) (hB : B ≤ B') : Names w B' v f := Sl.more h hB
theorem Names.take {w : World} {B : Nat} {A : Option Addr} {n cap : Nat} {f : List ByteArray} (h : Names w B (.slice A n cap) f) {k : Nat} (hk : k ≤ f.length) : Names w B (.slice A k cap) (f.take k) := by
  obtain ⟨A', b, off, cap', h1, h2, h3, h4⟩ := h
  injection h1 with e1 e2 e3
  subst e1 e3
  have hl : (f.take k).length = k := by simp; omega
  refine ⟨A, b, off, cap, by rw [hl], by omega, ?_, fun i j hi hj => ?_⟩
  · rcases h3 with h3 | h3
    · exact .inl h3
    · exact .inr (by omega)
  · rw [h4 i j (by omega) hj]
    congr 2
    rw [hl] at hi
    simp [List.getD_eq_getElem?_getD, hi]
set_option maxRecDepth 100000 in
theorem indexS_any (ns : List ByteArray) (s : ByteArray) (v : Value) (B : Nat) (w : World) (hm : ns.length ≤ maxLen) (h : Names w B v ns) :
    Calls Tryd.prog 52 #[v, .string s] w fun e w' => e = .returned (.int .i64 (idxI (fun x => x.toList == s.toList) ns)) ∧ w = w' := by
  unfold maxLen at hm
  obtain ⟨A, b, off, cap, rfl, hnc, hA, hc⟩ := h
  have HC := hide hc
  have HA := hide hA
  clear hc hA
  go_enter Tryd.func52, Tryd.ntmps52
  go_wp2
  go_loop [8] (fun i => ∃ k : Nat, k ≤ ns.length ∧ i = .int .i64 k ∧ Hid (∀ j, j < k → ((ns.getD j ByteArray.empty).toList == s.toList) = false)) (fun i => ns.length - (intOf i).toNat)
  case atStart => exact ⟨0, Nat.zero_le _, rfl, fun j hj => by omega⟩
  case round =>
    obtain ⟨k, hk, rfl, hall⟩ := hrel
    by_cases hlt : k < ns.length
    · obtain ⟨rfl, hbb⟩ : A = some ⟨b, off, none⟩ ∧ b < B := by
        rcases HA.out with h | h
        · exact h
        · omega
      obtain ⟨x, hx⟩ : ∃ x, ns.getD k ByteArray.empty = x := ⟨_, rfl⟩
      have c0 : w.cell? ⟨b, off + k, none⟩ = some (.string x) := by
        have h1 := HC.out k 0 hlt (by omega)
        rw [Nat.mul_one, Nat.add_zero, hx] at h1
        exact h1
      have HX := hide hx
      clear hx
      by_cases he : x.toList = s.toList
      · have he1 : (s.toList == x.toList) = true := by simp [he]
        have HE := hide he
        clear he
        go_wp2
        go_ret
        exact ⟨ret_int (idxI_at _ ByteArray.empty ns k hall.out hlt (by rw [HX.out, HE.out]; simp)).symm, rfl⟩
      · have he1 : (s.toList == x.toList) = false := by simpa using fun e => he e.symm
        have he2 : ¬ s.toList = x.toList := fun e => he e.symm
        have HE := hide he
        clear he
        go_wp2
        go_round
        case rel => exact ⟨k + 1, by omega, by go_num, fun j hj => by
            rcases Nat.lt_or_ge j k with h | h
            · exact hall.out j h
            · rw [show j = k from by omega, HX.out]; simpa using HE.out⟩
        case measure => simp [intOf]; omega
    · go_wp2
      go_ret
      exact ⟨ret_int (idxI_none _ ByteArray.empty ns (fun j hj => hall.out j (by omega))).symm, rfl⟩
set_option maxRecDepth 100000 in
theorem containsS_any (ns : List ByteArray) (s : ByteArray) (v : Value) (B : Nat) (w : World) (hm : ns.length ≤ maxLen) (h : Names w B v ns) :
    Calls Tryd.prog 34 #[v, .string s] w fun e w' => e = .returned (.bool ((ns.map fun x => x.data.toList).contains s.data.toList)) ∧ w = w' := by
  have he : (ns.map fun x => x.data.toList).contains s.data.toList = decide (0 ≤ idxI (fun x => x.toList == s.toList) ns) := by
    rw [idxI_any, Bool.eq_iff_iff]
    simp [ByteArray.toList_eq]
  have HE := hide he
  have H := hide h
  clear he h
  go_enter Tryd.func34, Tryd.ntmps34
  go_wp2_with (go_at_call 52; refine (indexS_any ns s v B _ hm H.out).mono ?_; rintro e w1 ⟨rfl, rfl⟩)
  go_ret
  exact ⟨ret_bool HE.out.symm, rfl⟩
end Go.Proofs.YtjimbcklnnhloaaDoor
/- Valid formulas and models: walks. -/
namespace Go.Proofs.YtjimbcklnnhloaaDoor
open Go.RowKit
set_option linter.unusedVariables false
set_option linter.unusedSimpArgs false
theorem wrap_zero {w : Nat} (h : (w : Int) ≤ 9223372036854775808) : (wrap64 (w : Int) == 0) = decide (w = 0) := by
  rcases (by omega : (w : Int) ≤ 9223372036854775807 ∨ (w : Int) = 9223372036854775808) with h1 | h1
  · rw [IntWalk.wrap64_in _ (by omega)]
    rw [Bool.eq_iff_iff]; simp
  · rw [h1]
    have : decide (w = 0) = false := by simp; omega
    rw [this]
    unfold wrap64
    rfl
set_option maxRecDepth 100000 in
set_option maxHeartbeats 1000000 in
theorem valid_any (f : List Int) (N : Nat) (v : Value) (B : Nat) (w : World) (hm : f.length ≤ maxLen) (h : Ints w B v f) :
    Calls Tryd.prog 55 #[v, .int .i64 N] w fun e w' => e = .returned (.bool (validF N f)) ∧ w = w' := by
  unfold maxLen at hm
  obtain ⟨A, b, off, cap, rfl, hnc, hA, hc⟩ := h
  have HC := hide hc
  have HA := hide hA
  have hN0 : (0 : Int) ≤ (N : Int) := by omega
  clear hc hA
  go_enter Tryd.func55, Tryd.ntmps55
  go_wp2
  go_loop [5, 10] (fun x i => ∃ k c : Nat, k ≤ f.length ∧ c ≤ k + 1 ∧ i = .int .i64 k ∧ x = .int .i64 (wrap64 (c : Int)) ∧ Hid (vld N 1 f = vld N c (f.drop k))) (fun _ i => f.length - (intOf i).toNat)
  case atStart => exact ⟨0, 1, Nat.zero_le _, by omega, rfl, by rw [IntWalk.wrap64_in _ (by omega)]; rfl, rfl⟩
  case round =>
    obtain ⟨k, c, hk, hck, rfl, rfl, hv⟩ := hrel
    by_cases hlt : k < f.length
    · obtain ⟨rfl, hbb⟩ : A = some ⟨b, off, none⟩ ∧ b < B := by
        rcases HA.out with h | h
        · exact h
        · omega
      obtain ⟨o, ho⟩ : ∃ o, f.getD k 0 = o := ⟨_, rfl⟩
      have c0 : w.cell? ⟨b, off + k, none⟩ = some (.int .i64 o) := by
        have h1 := HC.out k 0 hlt (by omega)
        rw [Nat.mul_one, Nat.add_zero, ho] at h1
        exact h1
      have hv2 := hv.out
      rw [drop_getD hlt, ho] at hv2
      have HV2 := hide hv2
      rw [IntWalk.wrap64_in _ (by omega)]
      have hc0 : (0 : Int) ≤ (c : Int) := by omega
      have hbad : vld N c (o :: f.drop (k + 1)) = false → validF N f = false := fun h => by
        unfold validF; rw [HV2.out, h]; rfl
      have HBAD := hide hbad
      clear hv2 ho hbad
      match c, hck, HV2, HBAD, hc0 with
      | 0, _, HV2, HBAD, hc0 =>
        have h0 : (((0 : Nat) : Int) == 0) = true := by simp
        go_wp2
        go_ret
        exact ⟨ret_bool (HBAD.out rfl).symm, rfl⟩
      | c + 1, hck, HV2, HBAD, hc0 =>
        have h0 : (((c + 1 : Nat) : Int) == 0) = false := by simp; omega
        by_cases h6 : o < -6
        · have hb : vld N (c + 1) (o :: f.drop (k + 1)) = false := by
            have : decide (-6 ≤ o) = false := by simp; omega
            simp only [vld, this, Bool.false_and]
          have HB := hide (HBAD.out hb)
          clear hb
          go_wp2
          go_ret
          exact ⟨ret_bool HB.out.symm, rfl⟩
        · by_cases hoN : (N : Int) ≤ o
          · have hb : vld N (c + 1) (o :: f.drop (k + 1)) = false := by
              have : decide (o < N) = false := by simp; omega
              simp only [vld, this, Bool.and_false, Bool.false_and]
            have HB := hide (HBAD.out hb)
            clear hb
            go_wp2
            go_ret
            exact ⟨ret_bool HB.out.symm, rfl⟩
          · have hg : vld N (c + 1) (o :: f.drop (k + 1)) = vld N (c + arO o) (f.drop (k + 1)) := by
              have h1 : decide (-6 ≤ o) = true := by simp; omega
              have h2 : decide (o < N) = true := by simp; omega
              simp only [vld, h1, h2, Bool.true_and]
            have ha2 : arO o ≤ 2 := by unfold arO; split; omega; split <;> omega
            have HG := hide hg
            clear hg
            go_wp2_with (go_at_call 48; refine (operands_any _ _).mono ?_; rintro e w1 ⟨rfl, rfl⟩)
            go_round
            case rel => exact ⟨k + 1, c + arO o, by omega, by omega, by go_num, by congr 2; first | omega | (congr 1; omega), by rw [hv.out, ← HG.out]; exact (hv.out.symm.trans HV2.out)⟩
            case measure => simp [intOf]; omega
    · obtain rfl : k = f.length := by omega
      have hz := wrap_zero (w := c) (by omega)
      have hf : validF N f = (decide (c = 0) && decide (f.length ≤ 100)) := by
        unfold validF
        rw [hv.out, List.drop_length]
        congr 1
        cases c <;> simp [vld]
      obtain ⟨z, hzz⟩ : ∃ z, wrap64 (c : Int) = z := ⟨_, rfl⟩
      rw [hzz] at hz ⊢
      have HF := hide hf
      clear hf hzz
      by_cases hc0 : c = 0
      · have hz1 : (z == 0) = true := by rw [hz]; simp [hc0]
        have HC0 := hide hc0
        clear hz hc0
        by_cases h100 : f.length ≤ 100
        · have h101 : (f.length : Int) ≤ 100 := by omega
          go_wp2
          go_ret
          exact ⟨ret_bool (by rw [HF.out, HC0.out]; simp [h100]), rfl⟩
        · have h101 : ¬ (f.length : Int) ≤ 100 := by omega
          go_wp2
          go_ret
          exact ⟨ret_bool (by rw [HF.out]; simp [h100]), rfl⟩
      · have hz1 : (z == 0) = false := by rw [hz]; simp [hc0]
        have HC0 := hide hc0
        clear hz hc0
        go_wp2
        go_ret
        exact ⟨ret_bool (by rw [HF.out]; simp [HC0.out]), rfl⟩
end Go.Proofs.YtjimbcklnnhloaaDoor
/- Which formulas and models are valid: walks. -/
namespace Go.Proofs.YtjimbcklnnhloaaDoor
open Go.RowKit
set_option linter.unusedVariables false
set_option linter.unusedSimpArgs false
set_option maxRecDepth 100000 in
theorem indexForms_valid (p : List Int → Bool) (cap0 : Value) (v : Value) (fs : List (List Int)) (w : World) (hm : fs.length ≤ maxLen) (h : Forms w w.heap.size v fs)
    (hf : ∀ (i : Nat) (f : List Int) (fv : Value) (W : World), i < fs.length → fs.getD i [] = f → Below w.heap.size w W → Ints W w.heap.size fv f → Calls Tryd.prog 54 #[fv, cap0] W fun e w' => e = .returned (.bool (p f)) ∧ Below W.heap.size W w') :
    Calls Tryd.prog 62 #[v, .func (.func 54) #[] #[cap0]] w fun e w' => e = .returned (.int .i64 (idxI p fs)) ∧ Below w.heap.size w w' := by
  unfold maxLen at hm
  obtain ⟨fvs, ⟨A, b, off, cap, rfl, hnc, hA, hc⟩, hin⟩ := h
  have HC := hide hc
  have HA := hide hA
  have HF := hide hf
  have HIN := hide hin
  clear hc hA hf hin
  go_enter Tryd.func62, Tryd.ntmps62
  go_wp2
  go_loopw [5, 8] (fun _ i wr => ∃ k : Nat, k ≤ fs.length ∧ i = .int .i64 k ∧ Hid (∀ j, j < k → p (fs.getD j []) = false) ∧ Below w.heap.size w wr) (fun _ i _ => fs.length - (intOf i).toNat)
  case atStart => exact ⟨0, Nat.zero_le _, rfl, fun j hj => by omega, Below.refl _ _⟩
  case round =>
    obtain ⟨k, hk, rfl, hz, hB⟩ := hrel
    by_cases hlt : k < fs.length
    · obtain ⟨rfl, hbb⟩ : A = some ⟨b, off, none⟩ ∧ b < w.heap.size := by
        rcases HA.out with h | h
        · exact h
        · omega
      obtain ⟨f, hfe⟩ : ∃ f, fs.getD k [] = f := ⟨_, rfl⟩
      have c0 : wr.cell? ⟨b, off + k, none⟩ = some (fvs k) := by
        have h1 := HC.out k 0 hlt (by omega)
        rw [Nat.mul_one, Nat.add_zero] at h1
        exact (hB.cell (p := ⟨b, off + k, none⟩) hbb).trans h1
      have hi : Ints wr w.heap.size (fvs k) f := by
        have := (HIN.out k hlt).below hB
        rwa [hfe] at this
      have hcl := HF.out k f (fvs k) wr hlt hfe hB hi
      obtain ⟨Af, capf, hfv⟩ := Sl.form hi
      rw [hfv] at c0 hcl
      have HFE := hide hfe
      clear hfe hi hfv
      by_cases hp : p f = true
      · rw [hp] at hcl
        have HCL := hide hcl
        have HP := hide hp
        clear hcl hp
        go_wp2_with (go_at_call 54; refine HCL.out.mono ?_; rintro e w1 ⟨rfl, hB1⟩)
        go_ret
        exact ⟨ret_int (idxI_at p [] fs k hz.out hlt (by rw [HFE.out]; exact HP.out)).symm, (by repeat (first | exact Below.refl _ _ | assumption | refine Below.drew ?_ | refine Below.drewN ?_ _ | refine Below.allocT ?_ (Nat.le_refl _) _ | refine Below.setCell ?_ (by simp <;> omega) _ | refine Below.to ?_ (by assumption) (Nat.le_refl _)))⟩
      · have hp' : p f = false := by simpa using hp
        rw [hp'] at hcl
        have HCL := hide hcl
        have HP := hide hp'
        clear hcl hp hp'
        go_wp2_with (go_at_call 54; refine HCL.out.mono ?_; rintro e w1 ⟨rfl, hB1⟩)
        go_roundw
        case rel => exact ⟨k + 1, by omega, by go_num, fun j hj => by
            rcases Nat.lt_or_ge j k with h | h
            · exact hz.out j h
            · rw [show j = k from by omega, HFE.out]; exact HP.out, (by repeat (first | exact Below.refl _ _ | assumption | refine Below.drew ?_ | refine Below.drewN ?_ _ | refine Below.allocT ?_ (Nat.le_refl _) _ | refine Below.setCell ?_ (by simp <;> omega) _ | refine Below.to ?_ (by assumption) (Nat.le_refl _)))⟩
        case measure => simp [intOf]; omega
    · go_wp2
      go_ret
      exact ⟨ret_int (idxI_none p [] fs (fun j hj => hz.out j (by omega))).symm, (by repeat (first | exact Below.refl _ _ | assumption | refine Below.drew ?_ | refine Below.drewN ?_ _ | refine Below.allocT ?_ (Nat.le_refl _) _ | refine Below.setCell ?_ (by simp <;> omega) _ | refine Below.to ?_ (by assumption) (Nat.le_refl _)))⟩


set_option maxRecDepth 100000 in
theorem containsForms_valid (p : List Int → Bool) (cap0 : Value) (v : Value) (fs : List (List Int)) (w : World) (hm : fs.length ≤ maxLen) (h : Forms w w.heap.size v fs)
    (hf : ∀ (i : Nat) (f : List Int) (fv : Value) (W : World), i < fs.length → fs.getD i [] = f → Below w.heap.size w W → Ints W w.heap.size fv f → Calls Tryd.prog 54 #[fv, cap0] W fun e w' => e = .returned (.bool (p f)) ∧ Below W.heap.size W w') :
    Calls Tryd.prog 53 #[v, .func (.func 54) #[] #[cap0]] w fun e w' => e = .returned (.bool (fs.any p)) ∧ Below w.heap.size w w' := by
  have hc := indexForms_valid p cap0 v fs w hm h hf
  have he := idxI_any p fs
  have hlo := idxI_lo p fs
  have hhi := idxI_hi p fs
  obtain ⟨z, hz⟩ : ∃ z, idxI p fs = z := ⟨_, rfl⟩
  rw [hz] at hc he hlo hhi
  obtain ⟨fvs, h1, _⟩ := h
  obtain ⟨A, cap, rfl⟩ := Sl.form h1
  have HC := hide hc
  have HE := hide he
  unfold maxLen at hm
  have hz2 : z ≤ 9223372036854775807 := by omega
  clear hc he hz h1 hf
  go_enter Tryd.func53, Tryd.ntmps53
  go_wp2_with (go_at_call 62; refine HC.out.mono ?_; rintro e w1 ⟨rfl, hB1⟩)
  go_ret
  exact ⟨ret_bool HE.out, (by repeat (first | exact Below.refl _ _ | assumption | refine Below.drew ?_ | refine Below.drewN ?_ _ | refine Below.allocT ?_ (Nat.le_refl _) _ | refine Below.setCell ?_ (by simp <;> omega) _ | refine Below.to ?_ (by assumption) (Nat.le_refl _)))⟩


/-- A model's cells, in a box. -/
def MoBox (w : World) (b : Nat) (ov rv : Value) : Prop := w.heap[b]? = some (.cells #[ov, rv] 25 (0, 0))
/-- A model in memory. -/
structure MoAt (w : World) (B : Nat) (ov rv : Value) (m : Mo) : Prop where
  o : Names w B ov m.opts
  r : Forms w B rv m.rules
theorem MoAt.below {w w' : World} {B : Nat} {ov rv : Value} {m : Mo} (h : MoAt w B ov rv m) (hb : Below B w w') : MoAt w' B ov rv m := ⟨h.o.below hb, h.r.below hb⟩
theorem MoAt.more {w : World} {B B' : Nat} {ov rv : Value} {m : Mo} (h : MoAt w B ov rv m) (hB : B ≤ B') : MoAt w B' ov rv m := ⟨h.o.more hB, h.r.more hB⟩
theorem MoAt.up {w w' : World} {ov rv : Value} {m : Mo} (h : MoAt w w.heap.size ov rv m) (hb : Below w.heap.size w w') : MoAt w' w'.heap.size ov rv m := (h.below hb).more hb.size
theorem Ints.up {w w' : World} {v : Value} {f : List Int} (h : Ints w w.heap.size v f) (hb : Below w.heap.size w w') : Ints w' w'.heap.size v f := (h.below hb).more hb.size
theorem Forms.up {w w' : World} {v : Value} {f : List (List Int)} (h : Forms w w.heap.size v f) (hb : Below w.heap.size w w') : Forms w' w'.heap.size v f := (h.below hb).more hb.size
theorem Forms.form {w : World} {B : Nat} {v : Value} {fs : List (List Int)} (h : Forms w B v fs) : ∃ A cap, v = .slice A fs.length cap := by
  obtain ⟨_, h1, _⟩ := h
  exact Sl.form h1
/-- Sizes that memory allows. -/
def Sized (l : List (List Int)) : Prop := l.length ≤ maxLen ∧ ∀ f ∈ l, f.length ≤ maxLen
set_option maxRecDepth 100000 in
theorem checkClo_any (f : List Int) (fv ov rv : Value) (n mb : Nat) (A : Option Addr) (cap : Nat) (hov : ov = .slice A n cap) (W : World) (hm : f.length ≤ maxLen) (hb : MoBox W mb ov rv) (B : Nat) (h : Ints W B fv f) :
    Calls Tryd.prog 54 #[fv, .pointer (some ⟨mb, 0, none⟩)] W fun e w' => e = .returned (.bool (!validF n f)) ∧ Below W.heap.size W w' := by
  subst hov
  have c0 := cellOf hb 0
  have H := hide h
  clear hb h
  go_enter Tryd.func54, Tryd.ntmps54
  go_wp2_with (go_at_call 55; refine (valid_any f n _ B _ hm H.out).mono ?_; rintro e w1 ⟨rfl, rfl⟩)
  go_ret
  exact ⟨rfl, (by repeat (first | exact Below.refl _ _ | assumption | refine Below.drew ?_ | refine Below.drewN ?_ _ | refine Below.allocT ?_ (Nat.le_refl _) _ | refine Below.setCell ?_ (by simp <;> omega) _ | refine Below.to ?_ (by assumption) (Nat.le_refl _)))⟩
set_option maxRecDepth 100000 in
theorem checkForms_any (m : Mo) (fs : List (List Int)) (ov rv fv : Value) (w : World) (hm : m.opts.length ≤ maxLen) (hs : Sized fs) (ho : Names w w.heap.size ov m.opts) (h : Forms w w.heap.size fv fs) :
    Calls Tryd.prog 35 #[.agg #[ov, rv], fv] w fun e w' => e = .returned (.int .i64 (if fs.all (validF m.opts.length) = false then 11 else 0)) ∧ Below w.heap.size w w' := by
  obtain ⟨A, cap, hov⟩ := Sl.form ho
  have hB0 : Below w.heap.size w (w.alloc (.cells #[ov, rv] 25)) := (by repeat (first | exact Below.refl _ _ | assumption | refine Below.drew ?_ | refine Below.drewN ?_ _ | refine Below.allocT ?_ (Nat.le_refl _) _ | refine Below.setCell ?_ (by simp <;> omega) _ | refine Below.to ?_ (by assumption) (Nat.le_refl _)))
  have hbx : MoBox (w.alloc (.cells #[ov, rv] 25)) w.heap.size ov rv := heap_new _ _ _ rfl
  have hcl := containsForms_valid (fun f => !validF m.opts.length f) (.pointer (some ⟨w.heap.size, 0, none⟩)) fv fs (w.alloc (.cells #[ov, rv] 25)) hs.1 (h.up hB0)
    (fun i f fv' W hi hf hB hin => checkClo_any f fv' ov rv m.opts.length w.heap.size A cap hov W (hs.2 f (by rw [← hf]; exact getD_mem hi)) (box_to hbx hB) _ hin)
  have he : fs.any (fun f => !validF m.opts.length f) = !fs.all (validF m.opts.length) := by
    rw [List.all_eq_not_any_not, Bool.not_not]
  rw [he] at hcl
  obtain ⟨Af, capf, hfv⟩ := h.form
  subst hfv hov
  have HCL := hide hcl
  clear hcl he hbx hB0 h ho hs hm
  cases ha : fs.all (validF m.opts.length) with
  | true =>
    rw [ha] at HCL
    clear ha
    go_enter Tryd.func35, Tryd.ntmps35
    go_wp2_with (go_at_call 53; refine HCL.out.mono ?_; rintro e w1 ⟨rfl, hB1⟩)
    go_ret
    exact ⟨rfl, (by repeat (first | exact Below.refl _ _ | assumption | refine Below.drew ?_ | refine Below.drewN ?_ _ | refine Below.allocT ?_ (Nat.le_refl _) _ | refine Below.setCell ?_ (by simp <;> omega) _ | refine Below.to ?_ (by assumption) (Nat.le_refl _)))⟩
  | false =>
    rw [ha] at HCL
    clear ha
    go_enter Tryd.func35, Tryd.ntmps35
    go_wp2_with (go_at_call 53; refine HCL.out.mono ?_; rintro e w1 ⟨rfl, hB1⟩)
    go_ret
    exact ⟨rfl, (by repeat (first | exact Below.refl _ _ | assumption | refine Below.drew ?_ | refine Below.drewN ?_ _ | refine Below.allocT ?_ (Nat.le_refl _) _ | refine Below.setCell ?_ (by simp <;> omega) _ | refine Below.to ?_ (by assumption) (Nat.le_refl _)))⟩
end Go.Proofs.YtjimbcklnnhloaaDoor
/- CheckModel, check: walks. -/
namespace Go.Proofs.YtjimbcklnnhloaaDoor
open Go.RowKit
set_option linter.unusedVariables false
set_option linter.unusedSimpArgs false
/-- Sizes that memory allows. -/
structure SizedM (m : Mo) : Prop where
  n : m.opts.length ≤ maxLen
  s : ∀ x ∈ m.opts, x.size ≤ maxLen
  r : Sized m.rules
theorem names_get (m : Mo) (k : Nat) : m.names.getD k [] = (m.opts.getD k ByteArray.empty).data.toList := by
  unfold Mo.names
  simp only [List.getD_eq_getElem?_getD, List.getElem?_map]
  cases m.opts[k]? <;> rfl
theorem Mo.err_many {m : Mo} (h : 40 < m.opts.length ∨ 60 < m.rules.length) : m.err = 2 := by unfold Mo.err; rw [if_pos h]
theorem Mo.err_name {m : Mo} (h1 : m.opts.length ≤ 40) (h2 : m.rules.length ≤ 60) (h : namesB [] m.names = false) : m.err = 10 := by unfold Mo.err; rw [if_neg (by omega), if_pos h]
theorem Mo.err_rest {m : Mo} (h1 : m.opts.length ≤ 40) (h2 : m.rules.length ≤ 60) (h : namesB [] m.names = true) : m.err = if m.rules.all (validF m.opts.length) = false then 11 else 0 := by unfold Mo.err; rw [if_neg (by omega), if_neg (by simp [h])]
set_option maxRecDepth 100000 in
set_option maxHeartbeats 2000000 in
theorem CheckModel_any (m : Mo) (ov rv : Value) (w : World) (hs : SizedM m) (h : MoAt w w.heap.size ov rv m) :
    Calls Tryd.prog 15 #[.agg #[ov, rv]] w fun e w' => e = .returned (.int .i64 m.err) ∧ Below w.heap.size w w' := by
  obtain ⟨A, cap, hov⟩ := Sl.form h.o
  obtain ⟨Ar, capr, hrv⟩ := h.r.form
  by_cases h40 : 40 < m.opts.length
  · have he := Mo.err_many (m := m) (.inl h40)
    have HE := hide he
    have hi : (40 : Int) < (m.opts.length : Int) := by omega
    subst hov hrv
    clear he h40 h
    go_enter Tryd.func15, Tryd.ntmps15
    go_wp2_with fail
    go_ret
    exact ⟨ret_int HE.out.symm, (by repeat (first | exact Below.refl _ _ | assumption | refine Below.drew ?_ | refine Below.drewN ?_ _ | refine Below.allocT ?_ (Nat.le_refl _) _ | refine Below.setCell ?_ (by simp <;> omega) _ | refine Below.to ?_ (by assumption) (Nat.le_refl _)))⟩
  by_cases h60 : 60 < m.rules.length
  · have he := Mo.err_many (m := m) (.inr h60)
    have HE := hide he
    have hi : ¬ (40 : Int) < (m.opts.length : Int) := by omega
    have hj : (60 : Int) < (m.rules.length : Int) := by omega
    subst hov hrv
    clear he h40 h60 h
    go_enter Tryd.func15, Tryd.ntmps15
    go_wp2_with fail
    go_ret
    exact ⟨ret_int HE.out.symm, (by repeat (first | exact Below.refl _ _ | assumption | refine Below.drew ?_ | refine Below.drewN ?_ _ | refine Below.allocT ?_ (Nat.le_refl _) _ | refine Below.setCell ?_ (by simp <;> omega) _ | refine Below.to ?_ (by assumption) (Nat.le_refl _)))⟩
  have hi : ¬ (40 : Int) < (m.opts.length : Int) := by omega
  have hj : ¬ (60 : Int) < (m.rules.length : Int) := by omega
  have hn := h.o
  subst hov
  obtain ⟨A', b, off, cap', h1, hnc, hA, hc⟩ := hn
  injection h1 with e1 _ e3
  subst e1 e3
  have HC := hide hc
  have HA := hide hA
  have H := hide h
  have HS := hide hs
  have h40' : m.opts.length ≤ 40 := by omega
  have h60' : m.rules.length ≤ 60 := by omega
  have hcn : (m.opts.length : Int) ≤ (cap : Int) := by omega
  subst hrv
  clear hc hA h hs h40 h60
  go_enter Tryd.func15, Tryd.ntmps15
  go_wp2_with fail
  generalize hw0 : World.alloc _ _ = w0
  obtain ⟨hb0, hB0, hs0⟩ := alloc1 hw0
  clear hw0
  have HX0 : Hid (MoBox w0 w.heap.size (.slice A m.opts.length cap) (.slice Ar m.rules.length capr)) := hb0
  have HB0 := hide hB0
  have HH0 : Hid (MoAt w0 w0.heap.size (.slice A m.opts.length cap) (.slice Ar m.rules.length capr) m) := H.out.up hB0
  clear hb0 hB0 hs0
  go_loopw [18] (fun i wr => ∃ k : Nat, k ≤ m.opts.length ∧ i = .int .i64 k ∧ Hid (∀ j, j < k → namedB (m.names.getD j []) = true ∧ ([] ++ m.names.take j).contains (m.names.getD j []) = false) ∧ Hid (Below w0.heap.size w0 wr)) (fun i _ => m.opts.length - (intOf i).toNat)
  case atStart => exact ⟨0, Nat.zero_le _, rfl, fun j hj => by omega, Below.refl _ _⟩
  case round =>
    obtain ⟨k, hk, rfl, hall, hB⟩ := hrel
    have hbx := box_to HX0.out hB.out
    have x0 := cellOf hbx 0
    have x1 := cellOf hbx 1
    clear hbx
    by_cases hlt : k < m.opts.length
    · obtain ⟨rfl, hbb⟩ : A = some ⟨b, off, none⟩ ∧ b < w.heap.size := by
        rcases HA.out with h | h
        · exact h
        · omega
      obtain ⟨x, hx⟩ : ∃ x, m.opts.getD k ByteArray.empty = x := ⟨_, rfl⟩
      have hBw := Below.to HB0.out hB.out (Nat.le_refl _)
      have c0 : wr.cell? ⟨b, off + k, none⟩ = some (.string x) := by
        have h1 := HC.out k 0 hlt (by omega)
        rw [Nat.mul_one, Nat.add_zero, hx] at h1
        exact (hBw.cell (p := ⟨b, off + k, none⟩) hbb).trans h1
      have hxs : x.size ≤ maxLen := HS.out.s x (by rw [← hx]; exact getD_mem hlt)
      have hnm : m.names.getD k [] = x.data.toList := by rw [names_get, hx]
      have HNM := hide hnm
      have HBW := hide hBw
      have ik : (k : Int) ≤ (cap : Int) := by omega
      have ik2 : (k : Int) < (m.opts.length : Int) := by omega
      clear hx hnm hBw
      by_cases hnb : namedB x.data.toList = true
      · have hct := containsS_any (m.opts.take k) x (.slice (some ⟨b, off, none⟩) k cap) w.heap.size wr (by unfold maxLen; simp; omega) (Names.take (H.out.o.below HBW.out) (by omega))
        have hmt : (m.opts.take k).map (fun x => x.data.toList) = m.names.take k := by unfold Mo.names; rw [List.map_take]
        rw [hmt] at hct
        have hna := named_any x wr hxs
        rw [hnb] at hna
        have HNA := hide hna
        have HNB := hide hnb
        clear hmt hna hnb
        cases hcc : (m.names.take k).contains x.data.toList with
        | true =>
          rw [hcc] at hct
          have HCT := hide hct
          have hbad : namesB [] m.names = false := namesB_at [] m.names k (by unfold Mo.names; simpa using hlt) hall.out (by rw [HNM.out, HNB.out, List.nil_append, hcc]; rfl)
          have he := Mo.err_name h40' h60' hbad
          have HE := hide he
          clear hcc hct hbad he
          go_wp2_with (first | (go_at_call 33; refine HNA.out.mono ?_; rintro e w1 ⟨rfl, rfl⟩) | (go_at_call 34; refine HCT.out.mono ?_; rintro e w2 ⟨rfl, rfl⟩))
          go_ret
          exact ⟨ret_int HE.out.symm, HBW.out⟩
        | false =>
          rw [hcc] at hct
          have HCT := hide hct
          have HCC := hide hcc
          clear hct hcc
          go_wp2_with (first | (go_at_call 33; refine HNA.out.mono ?_; rintro e w1 ⟨rfl, rfl⟩) | (go_at_call 34; refine HCT.out.mono ?_; rintro e w2 ⟨rfl, rfl⟩))
          go_roundw
          case rel => exact ⟨k + 1, by omega, by go_num, fun j hj => by
              rcases Nat.lt_or_ge j k with h | h
              · exact hall.out j h
              · rw [show j = k from by omega, HNM.out, List.nil_append]; exact ⟨HNB.out, HCC.out⟩, hB.out⟩
          case measure => simp [intOf]; omega
      · have hnb' : namedB x.data.toList = false := by simpa using hnb
        have hna := named_any x wr hxs
        rw [hnb'] at hna
        have HNA := hide hna
        have hbad : namesB [] m.names = false := namesB_at [] m.names k (by unfold Mo.names; simpa using hlt) hall.out (by rw [HNM.out, hnb']; rfl)
        have he := Mo.err_name h40' h60' hbad
        have HE := hide he
        clear hna hbad he hnb hnb'
        go_wp2_with (go_at_call 33; refine HNA.out.mono ?_; rintro e w1 ⟨rfl, rfl⟩)
        go_ret
        exact ⟨ret_int HE.out.symm, HBW.out⟩
    · have hgood : namesB [] m.names = true := namesB_all [] m.names (fun j hj => hall.out j (by unfold Mo.names at hj; simp at hj; omega))
      have he := Mo.err_rest h40' h60' hgood
      have hmw := HH0.out.up hB.out
      have hck := checkForms_any m m.rules (.slice A m.opts.length cap) (.slice Ar m.rules.length capr) (.slice Ar m.rules.length capr) wr HS.out.n HS.out.r hmw.o hmw.r
      rw [← he] at hck
      have HCK := hide hck
      clear hgood he hmw hck
      go_wp2_with (go_at_call 35; refine HCK.out.mono ?_; rintro e w1 ⟨rfl, hB1⟩)
      go_ret
      exact ⟨rfl, Below.to (Below.to HB0.out hB.out (Nat.le_refl _)) hB1 (Nat.le_refl _)⟩
theorem Mo.errF_err {m : Mo} {l : List (List Int)} (h : m.err ≠ 0) : m.errF l = m.err := by unfold Mo.errF; rw [if_pos h]
theorem Mo.errF_ok {m : Mo} {l : List (List Int)} (h : m.err = 0) : m.errF l = if l.all (validF m.opts.length) = false then 11 else 0 := by unfold Mo.errF; rw [if_neg (by simp [h])]
set_option maxRecDepth 100000 in
theorem check_any (m : Mo) (l : List (List Int)) (ov rv lv : Value) (w : World) (hs : SizedM m) (hl : Sized l) (h : MoAt w w.heap.size ov rv m) (hf : Forms w w.heap.size lv l) :
    Calls Tryd.prog 19 #[.agg #[ov, rv], lv] w fun e w' => e = .returned (.int .i64 (m.errF l)) ∧ Below w.heap.size w w' := by
  obtain ⟨A, cap, hov⟩ := Sl.form h.o
  obtain ⟨Ar, capr, hrv⟩ := h.r.form
  obtain ⟨Al, capl, hlv⟩ := hf.form
  have H := hide h
  have HF := hide hf
  have HS := hide hs
  have HL := hide hl
  subst hov hrv hlv
  clear h hf hs hl
  go_enter Tryd.func19, Tryd.ntmps19
  go_upto_region 1 with (fail)
  generalize hw0 : World.alloc _ _ = w0
  obtain ⟨hb0, hB0, hs0⟩ := alloc1 hw0
  clear hw0
  have c0 := cellOf hb0 0
  have c1 := cellOf hb0 1
  have HX0 : Hid (MoBox w0 w.heap.size (.slice A m.opts.length cap) (.slice Ar m.rules.length capr)) := hb0
  have HB0 := hide hB0
  have hck := CheckModel_any m (.slice A m.opts.length cap) (.slice Ar m.rules.length capr) w0 HS.out (H.out.up hB0)
  clear hb0 hB0 hs0
  by_cases he : m.err = 0
  · rw [he] at hck
    have HCK := hide hck
    have HE := hide (Mo.errF_ok (l := l) he)
    clear hck he
    go_wp2_with (go_at_call 15; refine HCK.out.mono ?_; rintro e w1 ⟨rfl, hB1⟩; have hbx := box_to HX0.out hB1; have d0 := cellOf hbx 0; have d1 := cellOf hbx 1; have HB1 : Hid (Below w.heap.size w w1) := Below.to HB0.out hB1 (Nat.le_refl _); clear hbx hB1)
    have hcf := checkForms_any m l (.slice A m.opts.length cap) (.slice Ar m.rules.length capr) (.slice Al l.length capl) w1 HS.out.n HL.out (H.out.up HB1.out).o (HF.out.up HB1.out)
    rw [← HE.out] at hcf
    have HCF := hide hcf
    clear hcf
    go_wp2_with (go_at_call 35; refine HCF.out.mono ?_; rintro e w2 ⟨rfl, hB2⟩)
    go_ret
    exact ⟨rfl, Below.to HB1.out hB2 (Nat.le_refl _)⟩
  · have hne : (m.err != 0) = true := by simpa using he
    have HE := hide (Mo.errF_err (l := l) he)
    have HCK := hide hck
    obtain ⟨z, hz⟩ : ∃ z, m.err = z := ⟨_, rfl⟩
    rw [hz] at hne HCK HE
    clear hck he hz
    go_wp2_with (go_at_call 15; refine HCK.out.mono ?_; rintro e w1 ⟨rfl, hB1⟩)
    go_ret
    exact ⟨ret_int HE.out.symm, Below.to HB0.out hB1 (Nat.le_refl _)⟩
end Go.Proofs.YtjimbcklnnhloaaDoor
/- begin: walk. -/
namespace Go.Proofs.YtjimbcklnnhloaaDoor
open Go.RowKit
set_option linter.unusedVariables false
set_option linter.unusedSimpArgs false
/-- What begin gives back where nothing is wrong. -/
structure BegR (m : Mo) (w w' : World) (F : Fo) (n : Nat) : Prop where
  here : FoAt w' F
  N : F.N = m.opts.length
  base : w.heap.size ≤ F.base
  below : Below w.heap.size w w'
  base2 : F.base ≤ w'.heap.size
  lt : n < F.ks.length
  ev : ∀ v, ev F.ks v n = allF v m.rules
  len : F.ks.length ≤ 2 + 6120 * 2 ^ F.N
  nj : F.nj ≤ 6120 * 2 ^ F.N
theorem BegR.room {m : Mo} {w w' : World} {F : Fo} {n : Nat} (h : BegR m w w' F n) (hN : m.opts.length ≤ 12) {k : Nat} (hk : k ≤ 200000) : Room F k := by
  have h1 := h.len
  have h2 := h.nj
  have h3 : 2 ^ F.N ≤ 2 ^ 12 := Nat.pow_le_pow_right (by omega) (by rw [h.N]; exact hN)
  have h4 := Nat.mul_le_mul (Nat.le_refl 6120) h3
  have h5 := Nat.mul_le_mul hk h3
  unfold Room
  omega
set_option maxRecDepth 100000 in
theorem begin_err (m : Mo) (l : List (List Int)) (ov rv lv : Value) (w : World) (hs : SizedM m) (hl : Sized l) (h : MoAt w w.heap.size ov rv m) (hf : Forms w w.heap.size lv l) (he : m.errF l ≠ 0) :
    Calls Tryd.prog 27 #[.agg #[ov, rv], lv] w fun e w' => e = .returned (.tuple #[.pointer none, .int .i64 0, .int .i64 (m.errF l)]) ∧ Below w.heap.size w w' := by
  obtain ⟨A, cap, hov⟩ := Sl.form h.o
  obtain ⟨Ar, capr, hrv⟩ := h.r.form
  obtain ⟨Al, capl, hlv⟩ := hf.form
  have H := hide h
  have HF := hide hf
  subst hov hrv hlv
  have hne : (m.errF l != 0) = true := by simpa using he
  obtain ⟨z, hz⟩ : ∃ z, m.errF l = z := ⟨_, rfl⟩
  rw [hz] at hne ⊢
  have HZ := hide hz
  clear h hf hz he
  go_enter Tryd.func27, Tryd.ntmps27
  go_upto_region 1 with (fail)
  generalize hw0 : World.alloc _ _ = w0
  obtain ⟨hb0, hB0, hs0⟩ := alloc1 hw0
  clear hw0
  have c0 := cellOf hb0 0
  have c1 := cellOf hb0 1
  have HB0 := hide hB0
  have hck := check_any m l (.slice A m.opts.length cap) (.slice Ar m.rules.length capr) (.slice Al l.length capl) w0 hs hl (H.out.up hB0) (HF.out.up hB0)
  rw [HZ.out] at hck
  have HCK := hide hck
  clear hb0 hB0 hs0 hck
  go_wp2_with (go_at_call 19; refine HCK.out.mono ?_; rintro e w1 ⟨rfl, hB1⟩)
  go_ret3
  exact ⟨rfl, Below.to HB0.out hB1 (Nat.le_refl _)⟩
set_option maxRecDepth 100000 in
theorem begin_ok (m : Mo) (l : List (List Int)) (ov rv lv : Value) (w : World) (hs : SizedM m) (hl : Sized l) (h : MoAt w w.heap.size ov rv m) (hf : Forms w w.heap.size lv l) (he : m.errF l = 0) (hN : m.opts.length ≤ 12) :
    Calls Tryd.prog 27 #[.agg #[ov, rv], lv] w fun e w' => ∃ F n, e = .returned (.tuple #[.pointer (some ⟨F.p, 0, none⟩), .int .i64 (n : Nat), .int .i64 0]) ∧ BegR m w w' F n := by
  obtain ⟨A, cap, hov⟩ := Sl.form h.o
  obtain ⟨Ar, capr, hrv⟩ := h.r.form
  obtain ⟨Al, capl, hlv⟩ := hf.form
  have H := hide h
  have HF := hide hf
  have hok := Mo.ok (Mo.okF he).1
  subst hov hrv hlv
  clear h hf
  go_enter Tryd.func27, Tryd.ntmps27
  go_upto_region 1 with (fail)
  generalize hw0 : World.alloc _ _ = w0
  obtain ⟨hb0, hB0, hs0⟩ := alloc1 hw0
  clear hw0
  have c0 := cellOf hb0 0
  have c1 := cellOf hb0 1
  have HX0 : Hid (MoBox w0 w.heap.size (.slice A m.opts.length cap) (.slice Ar m.rules.length capr)) := hb0
  have HB0 := hide hB0
  have hck := check_any m l (.slice A m.opts.length cap) (.slice Ar m.rules.length capr) (.slice Al l.length capl) w0 hs hl (H.out.up hB0) (HF.out.up hB0)
  rw [he] at hck
  have HCK := hide hck
  have HOK := hide hok
  clear hb0 hB0 hs0 hck he hok
  go_wp2_with (first | (go_at_call 19; refine HCK.out.mono ?_; rintro e w1 ⟨rfl, hB1⟩; have hbx := box_to HX0.out hB1; have d0 := cellOf hbx 0; have d1 := cellOf hbx 1; have HB1 : Hid (Below w.heap.size w w1) := Below.to HB0.out hB1 (Nat.le_refl _); have HX1 : Hid (MoBox w1 w.heap.size (.slice A m.opts.length cap) (.slice Ar m.rules.length capr)) := hbx; clear hbx hB1 c0 c1) | (go_at_call 43; refine (newForest_any m.opts.length (by omega) _).mono ?_; rintro e w2 ⟨rfl, hF2, hB2⟩; have hbx := box_to HX1.out hB2; have x0 := cellOf hbx 0; have x1 := cellOf hbx 1; have HB2 : Hid (Below w.heap.size w w2) := Below.to HB1.out hB2 (Nat.le_refl _); have HF2 := hide hF2; have HS2 : Hid (w1.heap.size ≤ w2.heap.size) := hB2.size; clear hbx hB2 hF2 d0 d1))
  have hp : 2 ^ m.opts.length ≤ 2 ^ 12 := Nat.pow_le_pow_right (by omega) hN
  have hrl : 102 * m.rules.length ≤ 6120 := by have := HOK.out.2.1; omega
  have hmu := Nat.mul_le_mul hrl hp
  have hmu2 : 102 * m.rules.length * 2 ^ m.opts.length ≤ 6120 * 2 ^ m.opts.length := Nat.mul_le_mul_right _ hrl
  have hs1 := HB1.out.size
  have hs2 := HS2.out
  have hal := all_any (newFo w1.heap.size m.opts.length) m.rules (.slice Ar m.rules.length capr) w2 HF2.out hs2 HOK.out.2.2.2 ((H.out.r.below HB2.out).more hs1) (by have := HOK.out.2.1; omega) ⟨by show 2 + 102 * m.rules.length * 2 ^ m.opts.length ≤ _; omega, by show 0 + 102 * m.rules.length * 2 ^ m.opts.length ≤ _; omega⟩
  have HAL : Hid (Calls Tryd.prog 44 #[.pointer (some ⟨w1.heap.size + 3, 0, none⟩), .slice Ar m.rules.length capr] w2 _) := hal
  have HMU : Hid (102 * m.rules.length * 2 ^ m.opts.length ≤ 6120 * 2 ^ m.opts.length) := hmu2
  clear hp hrl hmu hmu2 hs1 hs2 hal
  refine HAL.out.mono ?_
  rintro e w3 ⟨n, F3, rfl, r1, r2, r3⟩
  have R1 := hide r1
  have R3 := hide r3
  clear r1 r3
  go_wp2_with fail
  go_ret3
  refine ⟨F3, n, ?_, ?_⟩
  · rw [R1.out.st.p]; rfl
  · have hb3 := R1.out.st.below HF2.out HS2.out
    refine ⟨R1.out.st.here, R1.out.st.N, by rw [R1.out.st.ba]; exact HB1.out.size, ?_, ?_, r2, R3.out, ?_, ?_⟩
    · exact ⟨hb3.os.trans HB2.out.os, hb3.tape.trans HB2.out.tape, hb3.output.trans HB2.out.output, Nat.le_trans HB2.out.size hb3.size, fun k hk => (hb3.block k (Nat.lt_of_lt_of_le hk HB1.out.size)).trans (HB2.out.block k hk)⟩
    · rw [R1.out.st.ba]; exact Nat.le_trans HS2.out hb3.size
    · have h1 := R1.out.len
      have h2 := HMU.out
      rw [R1.out.st.N]
      show _ ≤ 2 + 6120 * 2 ^ m.opts.length
      replace h1 : F3.ks.length ≤ 2 + 102 * m.rules.length * 2 ^ m.opts.length := h1
      omega
    · have h1 := R1.out.nj
      have h2 := HMU.out
      rw [R1.out.st.N]
      show _ ≤ 6120 * 2 ^ m.opts.length
      replace h1 : F3.nj ≤ 0 + 102 * m.rules.length * 2 ^ m.opts.length := h1
      omega
end Go.Proofs.YtjimbcklnnhloaaDoor
/- Count: walk. -/
namespace Go.Proofs.YtjimbcklnnhloaaDoor
open Go.RowKit
set_option linter.unusedVariables false
set_option linter.unusedSimpArgs false
/-- The buildable variants in which a formula holds. -/
def satM (m : Mo) (p : (Nat → Bool) → Bool) : List (List Bool) := (exts m.opts.length []).filter fun x => allF (vf x) m.rules && p (vf x)
theorem satM_node {m : Mo} {ks : List Kn} {N n : Nat} {p : (Nat → Bool) → Bool} (hN : N = m.opts.length) (h : ∀ v, ev ks v n = (allF v m.rules && p v)) : sat ks N n [] = satM m p := by
  unfold sat satM
  rw [hN]
  exact List.filter_congr fun x _ => h _
/-- One formula in a new block is a list of formulas. -/
theorem forms_one {w : World} {b B : Nat} {fv : Value} {f : List Int} {t : Nat} (hb : w.heap[b]? = some (.cells #[fv] t (0, 0))) (hB : b < B) (h : Ints w B fv f) : Forms w B (.slice (some ⟨b, 0, none⟩) 1 1) [f] :=
  ⟨fun _ => fv, ⟨_, b, 0, 1, rfl, Nat.le_refl _, .inl ⟨rfl, hB⟩, fun i j hi hj => by
    simp at hi
    obtain rfl : j = 0 := by omega
    subst hi
    exact cellOf hb 0⟩, fun i hi => by
    simp at hi
    subst hi
    exact h⟩
theorem sized_one {f : List Int} (h : f.length ≤ maxLen) : Sized [f] := ⟨by unfold maxLen; simp, fun g hg => by simp at hg; rw [hg]; exact h⟩
/-- After begin and further steps all that was there before is as it was. -/
theorem OpR.low {m : Mo} {w w1 w2 : World} {F F2 : Fo} {n k : Nat} (h : BegR m w w1 F n) (r : OpR k w1 F w2 F2) : Below w.heap.size w w2 := by
  have hb := r.st.below h.here h.base2
  exact ⟨hb.os.trans h.below.os, hb.tape.trans h.below.tape, hb.output.trans h.below.output, Nat.le_trans h.below.size hb.size, fun k hk => (hb.block k (Nat.lt_of_lt_of_le hk h.base)).trans (h.below.block k hk)⟩
theorem BegR.of {m : Mo} {w w0 w1 : World} {F : Fo} {n : Nat} (h : BegR m w0 w1 F n) (hb : Below w.heap.size w w0) : BegR m w w1 F n :=
  ⟨h.here, h.N, Nat.le_trans hb.size h.base, Below.to hb h.below (Nat.le_refl _), h.base2, h.lt, h.ev, h.len, h.nj⟩
theorem BegR.op {m : Mo} {w w1 : World} {F : Fo} {n : Nat} (h : BegR m w w1 F n) : OpR 0 w1 F w1 F := OpR.refl h.here 0
theorem grow_beg {m : Mo} {w w1 w2 : World} {F F1 : Fo} {n k : Nat} {f : List Int} {fv : Value} (h : BegR m w w1 F n) (hN : m.opts.length ≤ 12) (r : OpR k w1 F w2 F1) (hk : k + 100 ≤ 200000) (hf : Ints w w.heap.size fv f) (hv : validF m.opts.length f = true) :
    Calls Tryd.prog 30 #[.pointer (some ⟨F.p, 0, none⟩), fv] w2
      fun e w' => ∃ g F', e = .returned (.int .i64 (g : Nat)) ∧ OpR (k + 100) w1 F w' F' ∧ OpR 100 w2 F1 w' F' ∧ g < F'.ks.length ∧ ∀ v, ev F'.ks v g = evF1 v f := by
  have hl := (validF_pos hv).2
  have hc := grow_any F1 f fv w2 r.st.here (by rw [r.st.ba]; exact Nat.le_trans h.base2 r.st.keep.size) (by rw [r.st.N, h.N]; exact hv) (by
    rw [r.st.ba]
    exact (hf.below (r.low h)).more h.base) ((h.room hN (k := k + 100) hk |>.step r).mono hl)
  rw [r.st.p] at hc
  refine hc.mono ?_
  rintro e w' ⟨g, F', rfl, r1, r2, r3⟩
  exact ⟨g, F', rfl, r.trans (r1.mono hl), r1.mono hl, r2, r3⟩
/-- and of some nodes, in a block that was just made. -/
theorem and_beg {m : Mo} {w w1 w2 : World} {F F1 : Fo} {n k : Nat} {l : List Nat} (h : BegR m w w1 F n) (hN : m.opts.length ≤ 12) (r : OpR k w1 F w2 F1) (hk : k + 4 ≤ 200000) (hl : l.length ≤ 4) (hln : ∀ x ∈ l, x < F1.ks.length) :
    Calls Tryd.prog 29 #[.pointer (some ⟨F.p, 0, none⟩), .slice (some ⟨w2.heap.size, 0, none⟩) l.length l.length] (w2.alloc (.cells (l.map fun (n : Nat) => Value.int .i64 n).toArray 3))
      fun e w' => ∃ g F', e = .returned (.int .i64 (g : Nat)) ∧ OpR (k + 4) w1 F w' F' ∧ OpR 4 w2 F1 w' F' ∧ g < F'.ks.length ∧ ∀ v, ev F'.ks v g = l.all (fun x => ev F1.ks v x) := by
  have hB : Below w2.heap.size w2 (w2.alloc (.cells (l.map fun (n : Nat) => Value.int .i64 n).toArray 3)) := (Below.refl _ _).alloc (Nat.le_refl _) _
  have hc := and_any F1 w2.heap.size l _ (r.st.here.below hB) hln (heap_new _ _ _ rfl) (fun e => by have := r.st.here.slt e; omega) (by omega) ((h.room hN (k := k + 4) hk |>.step r).mono hl)
  rw [r.st.p] at hc
  refine hc.mono ?_
  rintro e w' ⟨g, F', rfl, r1, r2, r3⟩
  have r4 : OpR 4 w2 F1 w' F' := (OpR.after_below r.st.here hB r1).mono hl
  exact ⟨g, F', rfl, r.trans r4, r4, r2, r3⟩
set_option maxRecDepth 100000 in
theorem Count_err (m : Mo) (f : List Int) (ov rv fv : Value) (w : World) (hs : SizedM m) (hl : f.length ≤ maxLen) (h : MoAt w w.heap.size ov rv m) (hf : Ints w w.heap.size fv f) (he : m.errF [f] ≠ 0) :
    Calls Tryd.prog 11 #[.agg #[ov, rv], fv] w fun e w' => e = .returned (.tuple #[.int .i64 0, .int .i64 (m.errF [f])]) ∧ Below w.heap.size w w' := by
  obtain ⟨A, cap, hov⟩ := Sl.form h.o
  obtain ⟨Ar, capr, hrv⟩ := h.r.form
  obtain ⟨Al, capl, hlv⟩ := Sl.form hf
  have H := hide h
  have HF := hide hf
  subst hov hrv hlv
  have hB2 : Below w.heap.size w ((w.alloc (.cells #[.slice A m.opts.length cap, .slice Ar m.rules.length capr] 25)).alloc (.cells #[.slice Al f.length capl] 28)) := (by repeat (first | exact Below.refl _ _ | assumption | refine Below.drew ?_ | refine Below.drewN ?_ _ | refine Below.allocT ?_ (Nat.le_refl _) _ | refine Below.setCell ?_ (by simp <;> omega) _ | refine Below.to ?_ (by assumption) (Nat.le_refl _)))
  have hbe := begin_err m [f] (.slice A m.opts.length cap) (.slice Ar m.rules.length capr) (.slice (some ⟨w.heap.size + 1, 0, none⟩) 1 1) _ hs (sized_one hl) (h.up hB2) (forms_one (heap_new _ _ _ (by simp)) (by simp) (hf.up hB2)) he
  have hne : (m.errF [f] != 0) = true := by simpa using he
  obtain ⟨z, hz⟩ : ∃ z, m.errF [f] = z := ⟨_, rfl⟩
  rw [hz] at hne hbe ⊢
  have HBE := hide hbe
  clear h hf hz he hbe hB2
  go_enter Tryd.func11, Tryd.ntmps11
  go_wp2_with (go_at_call 27; refine HBE.out.mono ?_; rintro e w1 ⟨rfl, hB1⟩)
  go_ret2
  exact ⟨rfl, (by repeat (first | exact Below.refl _ _ | assumption | refine Below.drew ?_ | refine Below.drewN ?_ _ | refine Below.allocT ?_ (Nat.le_refl _) _ | refine Below.setCell ?_ (by simp <;> omega) _ | refine Below.to ?_ (by assumption) (Nat.le_refl _)))⟩
set_option maxRecDepth 100000 in
set_option maxHeartbeats 1000000 in
theorem Count_ok (m : Mo) (f : List Int) (ov rv fv : Value) (w : World) (hs : SizedM m) (hl : f.length ≤ maxLen) (h : MoAt w w.heap.size ov rv m) (hf : Ints w w.heap.size fv f) (he : m.errF [f] = 0) (hN : m.opts.length ≤ 12) :
    Calls Tryd.prog 11 #[.agg #[ov, rv], fv] w fun e w' => e = .returned (.tuple #[.int .i64 ((satM m fun v => evF1 v f).length : Nat), .int .i64 0]) ∧ Below w.heap.size w w' := by
  have hmm := @run_makeMap Tryd.prog
  obtain ⟨A, cap, hov⟩ := Sl.form h.o
  obtain ⟨Ar, capr, hrv⟩ := h.r.form
  obtain ⟨Al, capl, hlv⟩ := Sl.form hf
  have H := hide h
  have HF := hide hf
  have HOK := hide (Mo.okF he)
  subst hov hrv hlv
  have hB2 : Below w.heap.size w ((w.alloc (.cells #[.slice A m.opts.length cap, .slice Ar m.rules.length capr] 25)).alloc (.cells #[.slice Al f.length capl] 28)) := (by repeat (first | exact Below.refl _ _ | assumption | refine Below.drew ?_ | refine Below.drewN ?_ _ | refine Below.allocT ?_ (Nat.le_refl _) _ | refine Below.setCell ?_ (by simp <;> omega) _ | refine Below.to ?_ (by assumption) (Nat.le_refl _)))
  have hbe := begin_ok m [f] (.slice A m.opts.length cap) (.slice Ar m.rules.length capr) (.slice (some ⟨w.heap.size + 1, 0, none⟩) 1 1) _ hs (sized_one hl) (h.up hB2) (forms_one (heap_new _ _ _ (by simp)) (by simp) (hf.up hB2)) he hN
  have HBE := hide hbe
  clear h hf he hbe hB2
  go_enter Tryd.func11, Tryd.ntmps11
  go_wp2_with (go_at_call 27; refine HBE.out.mono ?_; rintro e w1 ⟨F, n, rfl, r1⟩; have R1 : Hid (BegR m w w1 F n) := r1.of (by repeat (first | exact Below.refl _ _ | assumption | refine Below.drew ?_ | refine Below.drewN ?_ _ | refine Below.allocT ?_ (Nat.le_refl _) _ | refine Below.setCell ?_ (by simp <;> omega) _ | refine Below.to ?_ (by assumption) (Nat.le_refl _))); clear r1)
  refine (grow_beg R1.out hN R1.out.op (by omega) HF.out (HOK.out.2 f (by simp))).mono ?_
  rintro e w2 ⟨g, F2, rfl, r2, r3, hg, r4⟩
  have R2 := hide r2
  have R4 := hide r4
  have R3 := hide r3
  have hn2 : n < F2.ks.length := Nat.lt_of_lt_of_le R1.out.lt r3.st.le
  clear r2 r3 r4
  go_wp2_with fail
  refine (and_beg (l := [n, g]) R1.out hN R2.out (by omega) (by simp) (by intro x hx; simp at hx; rcases hx with rfl | rfl <;> assumption)).mono ?_
  rintro e w3 ⟨x, F3, rfl, r5, r6, hx, r7⟩
  have R5 := hide r5
  have R7 := hide r7
  have hN3 : F3.N = m.opts.length := r5.st.N.trans R1.out.N
  have hp : 2 ^ (F3.N + 1) ≤ 2 ^ 13 := Nat.pow_le_pow_right (by omega) (by omega)
  have hB3 : Below w3.heap.size w3 (w3.alloc (.map #[] 0)) := (Below.refl _ _).alloc (Nat.le_refl _) _
  have hco := count_any F3 w3.heap.size (fun e => by have := r5.st.here.slt e; omega) (by omega) F3.N x 0 (w3.alloc (.map #[] 0)) (fun _ => none) 0 (r5.st.here.below hB3) hx (by omega) (by omega) (MapIs.made _ _ _ _ _) (fun n x h => by cases h) (by omega)
  rw [r5.st.p] at hco
  have HCO := hide hco
  have HN3 := hide hN3
  clear r5 r6 r7 hco hN3 hp hB3
  go_wp2_with fail
  refine HCO.out.mono ?_
  rintro e w4 ⟨m', cnt', rfl, r8⟩
  have R8 := hide r8
  clear r8
  go_wp2_with fail
  go_ret2
  refine ⟨?_, ?_⟩
  · have h1 : cntK F3.ks F3.N x 0 = (satM m fun v => evF1 v f).length := by
      unfold cntK
      rw [show List.replicate 0 false = ([] : List Bool) from rfl, satM_node (p := fun v => evF1 v f) HN3.out (fun v => by rw [R7.out v, List.all_cons, List.all_cons, List.all_nil, R4.out v, R3.out.st.ev R1.out.here.wf R1.out.lt, R1.out.ev v, Bool.and_true])]
    rw [h1]; rfl
  · have h2 := R5.out.low R1.out
    have h3 := R8.out.keep.below (B := w.heap.size) (by have := h2.size; simp; omega) (fun k hk => by rw [hk]; exact h2.size)
    exact (Below.allocT h2 (Nat.le_refl _) _).trans h3
end Go.Proofs.YtjimbcklnnhloaaDoor
/- The text of nodes: walk. -/
namespace Go.Proofs.YtjimbcklnnhloaaDoor
open Go.RowKit
set_option linter.unusedVariables false
set_option linter.unusedSimpArgs false
theorem infoRune : (Tryd.prog.info? 21).map (fun i => (i.zero, i.size, i.bytes)) = some (some (.int .i32 0), 1, 4) := by kernel_rfl
theorem and15 (x : Int) (h0 : 0 ≤ x) (h1 : x < 9223372036854775808) : bits .and .i64 x 32767 = x % 32768 := by
  have h := bits_mask .i64 63 (by decide) wrap_small 15 (by decide) x h0 (by simpa using h1)
  have e : ((2 : Int) ^ 15 - 1) = 32767 := by decide
  have e2 : ((2 : Int) ^ 15) = 32768 := by decide
  rw [e, e2] at h
  exact h
theorem kyL_snoc (l : List Nat) (x : Nat) : kyL (l ++ [x]) = kyL l ++ [((x % 32768 : Nat) : Int), ((x / 32768 % 32768 : Nat) : Int)] := by simp [kyL]
theorem kyL_len (l : List Nat) : (kyL l).length = 2 * l.length := by
  induction l with
  | nil => rfl
  | cons x r ih =>
    show (kyL r).length + 1 + 1 = 2 * (r.length + 1)
    omega
set_option maxRecDepth 100000 in
set_option maxHeartbeats 2000000 in
theorem key_any (l : List Nat) (v : Value) (B : Nat) (w : World) (hl : l.length ≤ 1000) (hs : ∀ n ∈ l, n < 1073741824) (h : Sl w B 1 v l.length (fun i _ => .int .i64 (l.getD i 0 : Nat))) (hB : B ≤ w.heap.size) :
    Calls Tryd.prog 49 #[v] w fun e w' => e = .returned (.string (kyS l)) ∧ Below w.heap.size w w' := by
  obtain ⟨i0, hi0, iz0, iz1, iz2⟩ := info_parts infoRune
  obtain ⟨A, b, off, cap, rfl, hnc, hA, hc⟩ := h
  have HC := hide hc
  have HA := hide hA
  have HS := hide hs
  clear hc hA hs
  go_enter Tryd.func49, Tryd.ntmps49
  go_wp2
  go_loopw [3, 8] (fun x i wr => ∃ k : Nat, k ≤ l.length ∧ i = .int .i64 k ∧ Hid (wr.ownsRow w.heap.size 21 1 x (2 * k) ((kyL (l.take k)).map (Value.int .i32))) ∧ Hid (Below w.heap.size w wr)) (fun _ i _ => l.length - (intOf i).toNat)
  case atStart => exact ⟨0, Nat.zero_le _, rfl, World.ownsRow_nil w w.heap.size 21 1, Below.refl _ _⟩
  case round =>
    obtain ⟨k, hk, rfl, ho, hBw⟩ := hrel
    by_cases hlt : k < l.length
    · obtain ⟨rfl, hbb⟩ : A = some ⟨b, off, none⟩ ∧ b < B := by
        rcases HA.out with h | h
        · exact h
        · omega
      obtain ⟨x, hx⟩ : ∃ x, l.getD k 0 = x := ⟨_, rfl⟩
      have hx30 : x < 1073741824 := HS.out x (by rw [← hx]; exact getD_mem hlt)
      have c0 : wr.cell? ⟨b, off + k, none⟩ = some (.int .i64 (x : Nat)) := by
        have h1 := HC.out k 0 hlt (by omega)
        rw [Nat.mul_one, Nat.add_zero, hx] at h1
        exact (hBw.out.cell (p := ⟨b, off + k, none⟩) (by show b < w.heap.size; omega)).trans h1
      have HX := hide hx
      clear hx
      have hb1 : bits .and .i64 (x : Int) 32767 = ((x % 32768 : Nat) : Int) := by rw [and15 _ (by omega) (by omega)]; omega
      have hb2 : bits .and .i64 ((x : Int) / 32768) 32767 = ((x / 32768 % 32768 : Nat) : Int) := by rw [and15 _ (by omega) (by omega)]; omega
      obtain ⟨y, hy⟩ : ∃ y, x % 32768 = y := ⟨_, rfl⟩
      obtain ⟨z, hz⟩ : ∃ z, x / 32768 % 32768 = z := ⟨_, rfl⟩
      rw [hy] at hb1
      rw [hz] at hb2
      have hy1 : (y : Int) < 32768 := by omega
      have hz1 : (z : Int) < 32768 := by omega
      have hy0 : (0 : Int) ≤ (y : Int) := by omega
      have hz0 : (0 : Int) ≤ (z : Int) := by omega
      have hx0 : (0 : Int) ≤ (x : Int) := by omega
      have hx1 : (x : Int) < 1073741824 := by omega
      have HY := hide (And.intro hy hz)
      have hsz := hBw.out.size
      clear hy hz
      go_wp2_with (at_builtin; go_must (refine wpList_append_own_at _ rfl (.tmp 12) (.tmp 20) _ rfl w.heap.size 21 i0 _ 1 4 Tryd.underlying113 hi0 iz0 iz1 iz2 rfl (by omega) _ _ _ rfl (ho.out.alloc _) ⟨wr.heap.size, 0, none⟩ 2 2 [.int .i32 y, .int .i32 z] rfl rfl (World.news_of_block (heap_alloc_new wr _)) (by simp [Value.oneCell']) (by unfold maxLen; omega) (by omega) (by simp; omega) ?_); intro v1 w1 hown1 hg1 _ hat1; have HOWN := hide hown1; have HG1 := hide hg1; clear hown1 hg1 hat1)
      go_roundw
      case rel =>
        refine ⟨k + 1, by omega, by go_num, ?_, ?_⟩
        · have h1 := HOWN.out
          rw [take_getD (z := 0) hlt, HX.out, kyL_snoc, HY.out.1, HY.out.2, List.map_append]
          exact h1
        · exact Below.grown (Below.allocT hBw.out (Nat.le_refl _) _) HG1.out (by simp; omega) (fun j hj => (ho.out.lt j hj).1)
      case measure => simp [intOf]; omega
    · obtain rfl : k = l.length := by omega
      have ho2 := ho.out
      rw [List.take_length] at ho2
      rcases ho2.2 with ⟨h1, h2⟩ | ⟨g, cp, cur, h1, h2, h3, h4, h5, h6, h7⟩
      · subst h1
        have hl0 : l = [] := List.length_eq_zero_iff.1 (by omega)
        have hcv : (convert 113 9 (.slice none 0 0)).run Tryd.prog wr = .ok (.string .empty) wr := run_convert_runes_nil wr 113 9 21 0 0 Tryd.underlying113 Tryd.underlying21 Tryd.underlying9
        have HL := hide hl0
        clear hl0 ho2
        go_wp2
        go_ret
        exact ⟨by rw [HL.out]; rfl, hBw.out⟩
      · subst h1
        have hcell : ∀ j, j < (kyL l).length → wr.cell? ((⟨g, 0, none⟩ : Addr).add j) = some (.int .i32 ((kyL l).getD j 0)) := fun j hj => ho2.cells (g := g) rfl j _ (by simp [hj])
        have hcv : (convert 113 9 (.slice (some ⟨g, 0, none⟩) (2 * l.length) cp)).run Tryd.prog wr = .ok (.string (runesBytes ((kyL l).take (2 * l.length)))) wr := run_convert_runes wr 113 9 21 ⟨g, 0, none⟩ (2 * l.length) cp (kyL l) (by rw [kyL_len]; omega) Tryd.underlying113 Tryd.underlying21 Tryd.underlying9 hcell
        rw [List.take_of_length_le (by rw [kyL_len]; omega)] at hcv
        clear hcell ho2 h3 h7
        go_wp2
        go_ret
        exact ⟨rfl, hBw.out⟩
end Go.Proofs.YtjimbcklnnhloaaDoor
/- The weigher in memory; a step of it: walk. -/
namespace Go.Proofs.YtjimbcklnnhloaaDoor
open Go.RowKit
open Go.Maps (Keyed)
set_option linter.unusedVariables false
set_option linter.unusedSimpArgs false
/-- The slice v holds the nodes l, below block B. -/
def Nods (w : World) (B : Nat) (v : Value) (l : List Nat) : Prop := Sl w B 1 v l.length (fun i _ => .int .i64 (l.getD i 0 : Nat))
theorem Nods.below {w w' : World} {B : Nat} {v : Value} {l : List Nat} (h : Nods w B v l) (hb : Below B w w') : Nods w' B v l := Sl.below h hb
theorem Nods.up {w w' : World} {v : Value} {l : List Nat} (h : Nods w w.heap.size v l) (hb : Below w.heap.size w w') : Nods w' w'.heap.size v l := Sl.up h hb
theorem Nods.of_own {w : World} {base : Nat} {v : Value} {l : List Nat} (h : w.ownsRow base 3 1 v l.length (l.map fun (n : Nat) => Value.int .i64 n)) : Nods w w.heap.size v l := by
  rcases h.2 with ⟨h1, h2⟩ | ⟨g, cap, cur, h1, h2, h3, h4, h5⟩
  · rw [h1]
    have : l = [] := List.length_eq_zero_iff.1 h2
    subst this
    exact Sl.nil _ _ _ _
  · refine ⟨some ⟨g, 0, none⟩, g, 0, cap, h1, h4, .inl ⟨rfl, box_lt h3⟩, fun i j hi hj => ?_⟩
    have hg : v.ownBlock = some g := by rw [h1]; rfl
    have := h.cells hg i (.int .i64 (l.getD i 0 : Nat)) (by simp [hi])
    have he : (⟨g, 0, none⟩ : Addr).add i = ⟨g, i, none⟩ := by
      unfold Addr.add
      split
      · rename_i h0; rw [h0]
      · rw [Nat.zero_add]
    rw [he] at this
    rw [show 0 + (i * 1 + j) = i by omega]
    exact this
theorem owns_form {w : World} {base e size n : Nat} {v : Value} {xs : List Value} (h : w.ownsRow base e size v n xs) : ∃ A cap, v = .slice A n cap := by
  rcases h.2 with ⟨h1, h2⟩ | ⟨g, cap, cur, h1, _⟩
  · exact ⟨none, 0, by rw [h1, h2]⟩
  · exact ⟨_, _, h1⟩
/-- Lists of small numbers. -/
abbrev SmL := { l : List Nat // ∀ n ∈ l, n < 1073741824 }
def enS (a : SmL) : Value := .string (kyS a.1)
theorem enS_inj (a b : SmL) (h : enS a = enS b) : a = b := by
  unfold enS at h
  injection h with h
  exact Subtype.ext (kyS_inj a.2 b.2 h)
theorem enSKey {a : SmL} (h : a.1.length ≤ 1000) : ∃ l, keyOf Tryd.prog 9 (enS a) = some l :=
  ⟨_, Go.WideMaps.keyOf_string_mk Tryd.underlying9 (by have := kyS_size a.1; unfold maxLen; omega)⟩
theorem stLaw : Keyed Tryd.prog 9 := Maps.string_keyed Tryd.underlying9
/-- The weigher in memory. -/
structure WgAt (w : World) (F : Fo) (wp : Nat) (wsv : Value) (ws : List Int) (kb cnt : Nat) (m : SmL → Option Int) : Prop where
  box : w.heap[wp]? = some (.cells #[.pointer (some ⟨F.p, 0, none⟩), wsv, .map (some kb)] 77 (0, 0))
  fo : FoAt w F
  wts : Ints w w.heap.size wsv ws
  map : MapIs Tryd.prog w 9 3 kb cnt enS m
  ok : ∀ a x, m a = some x → x = bestK F.ks F.N a.1 ws []
  nS : ¬ SF F kb
theorem WgAt.ne {w : World} {F : Fo} {wp : Nat} {wsv : Value} {ws : List Int} {kb cnt : Nat} {m : SmL → Option Int} (h : WgAt w F wp wsv ws kb cnt m) : wp ≠ kb := by
  obtain ⟨es, c, h1⟩ := h.map.obj
  intro e
  have h2 := h.box
  rw [e, h1] at h2
  cases h2
theorem WgAt.below {w w' : World} {F : Fo} {wp : Nat} {wsv : Value} {ws : List Int} {kb cnt : Nat} {m : SmL → Option Int} (h : WgAt w F wp wsv ws kb cnt m) (hb : Below w.heap.size w w') : WgAt w' F wp wsv ws kb cnt m :=
  ⟨box_to h.box hb, h.fo.below hb, Ints.up h.wts hb, h.map.same (hb.block _ h.map.lt), h.ok, h.nS⟩
/-- A map that has changed changes no cell. -/
theorem keepsMap {α : Type} {kb cnt cnt' k e : Nat} {enc : α → Value} {m m' : α → Option Int} {w w' : World} (h : Keeps (fun i => i = kb) w w') (h1 : MapIs Tryd.prog w k e kb cnt enc m) (h2 : MapIs Tryd.prog w' k e kb cnt' enc m') : ∀ b o, b < w.heap.size → w'.cell? ⟨b, o, none⟩ = w.cell? ⟨b, o, none⟩ := by
  intro b o hb
  by_cases he : b = kb
  · obtain ⟨es, c, q1⟩ := h1.obj
    obtain ⟨es', c', q2⟩ := h2.obj
    subst he
    simp [World.cell?, q1, q2]
  · exact kcell h b o hb he
theorem WgAt.turn {w w' : World} {F : Fo} {wp : Nat} {wsv : Value} {ws : List Int} {kb cnt cnt' : Nat} {m m' : SmL → Option Int} (h : WgAt w F wp wsv ws kb cnt m) (hk : Keeps (fun i => i = kb) w w') (hm : MapIs Tryd.prog w' 9 3 kb cnt' enS m') (hok : ∀ a x, m' a = some x → x = bestK F.ks F.N a.1 ws []) : WgAt w' F wp wsv ws kb cnt' m' :=
  ⟨(hk.block _ (box_lt h.box) h.ne).trans h.box, h.fo.keeps hk (fun k hs e => h.nS (e ▸ hs)), Sl.more (Sl.keep h.wts (keepsMap hk h.map hm)) hk.size, hm, hok, h.nS⟩
set_option maxRecDepth 100000 in
set_option maxHeartbeats 2000000 in
theorem step_any (F : Fo) (wp : Nat) (wsv : Value) (ws : List Int) (kb cnt : Nat) (m : SmL → Option Int) (l : List Nat) (o : Nat) (b : Bool) (v : Value) (w : World) (h : WgAt w F wp wsv ws kb cnt m) (hl : l.length ≤ 1000) (hs : ∀ n ∈ l, n < F.ks.length) (hn : Nods w w.heap.size v l) :
    Calls Tryd.prog 32 #[.pointer (some ⟨wp, 0, none⟩), v, .int .i64 o, .bool b] w
      fun e w' => ∃ v', e = .returned v' ∧ Nods w' w'.heap.size v' (l.map fun n => brK F.ks n o b) ∧ Below w.heap.size w w' := by
  obtain ⟨i0, hi0, iz0, iz1, iz2⟩ := info_parts infoInt
  obtain ⟨A, b0, off, cap, rfl, hnc, hA, hc⟩ := hn
  have HC := hide hc
  have HA := hide hA
  have HS := hide hs
  have H := hide h
  clear hc hA hs h
  go_enter Tryd.func32, Tryd.ntmps32
  go_wp2
  go_loopw [9, 14] (fun x i wr => ∃ k : Nat, k ≤ l.length ∧ i = .int .i64 k ∧ Hid (wr.ownsRow w.heap.size 3 1 x k (((l.take k).map fun n => brK F.ks n o b).map fun (n : Nat) => Value.int .i64 n)) ∧ Hid (Below w.heap.size w wr)) (fun _ i _ => l.length - (intOf i).toNat)
  case atStart => exact ⟨0, Nat.zero_le _, rfl, World.ownsRow_nil w w.heap.size 3 1, Below.refl _ _⟩
  case round =>
    obtain ⟨k, hk, rfl, ho, hB⟩ := hrel
    by_cases hlt : k < l.length
    · obtain ⟨rfl, hbb⟩ : A = some ⟨b0, off, none⟩ ∧ b0 < w.heap.size := by
        rcases HA.out with h | h
        · exact h
        · omega
      obtain ⟨x, hx⟩ : ∃ x, l.getD k 0 = x := ⟨_, rfl⟩
      have hxl : x < F.ks.length := HS.out x (by rw [← hx]; exact getD_mem hlt)
      have c0 : wr.cell? ⟨b0, off + k, none⟩ = some (.int .i64 (x : Nat)) := by
        have h1 := HC.out k 0 hlt (by omega)
        rw [Nat.mul_one, Nat.add_zero, hx] at h1
        exact (hB.out.cell (p := ⟨b0, off + k, none⟩) hbb).trans h1
      have hwg := H.out.below hB.out
      have d0 := cellOf hwg.box 0
      have hbr := branch_any F x o b wr hwg.fo hxl
      have HBR := hide hbr
      have HX := hide hx
      have hsz := hB.out.size
      clear hx hwg hbr
      go_wp2_with (first | (go_at_call 50; refine HBR.out.mono ?_; rintro e w1 ⟨rfl, hB1⟩; have HB1 := hide hB1; have hsz1 := hB1.size; have ho1 := owns_below ho.out hB1; have HO1 := hide ho1; clear hB1 ho1) | (at_builtin; go_must (refine wpList_append_own_at _ rfl (.tmp 18) (.tmp 27) _ rfl w.heap.size 3 i0 _ 1 8 Tryd.underlying27 hi0 iz0 iz1 iz2 rfl (by omega) _ _ _ rfl (HO1.out.alloc _) ⟨w1.heap.size, 0, none⟩ 1 1 [.int .i64 (brK F.ks x o b : Nat)] rfl rfl (World.news_of_block (heap_alloc_new w1 _)) (by simp [Value.oneCell']) (by unfold maxLen; omega) (by omega) (by simp; omega) ?_); intro v1 w2 hown1 hg1 _ hat1; have HOWN := hide hown1; have HG1 := hide hg1; clear hown1 hg1 hat1))
      go_roundw
      case rel =>
        refine ⟨k + 1, by omega, by go_num, ?_, ?_⟩
        · have h1 := HOWN.out
          rw [take_getD (z := 0) hlt, HX.out, List.map_append, List.map_append]
          exact h1
        · exact Below.grown (Below.allocT (Below.to hB.out HB1.out (Nat.le_refl _)) (Nat.le_refl _) _) HG1.out (by simp; omega) (fun j hj => (HO1.out.lt j hj).1)
      case measure => simp [intOf]; omega
    · obtain rfl : k = l.length := by omega
      have ho2 := ho.out
      rw [List.take_length] at ho2
      have hf := owns_form ho2
      obtain ⟨A2, cap2, rfl⟩ := hf
      have HO2 := hide ho2
      clear ho2
      go_wp2
      go_ret
      refine ⟨_, rfl, Nods.of_own (base := w.heap.size) ?_, hB.out⟩
      rw [List.length_map]
      exact HO2.out
end Go.Proofs.YtjimbcklnnhloaaDoor
/- The greatest sum: walk of best. -/
namespace Go.Proofs.YtjimbcklnnhloaaDoor
open Go.RowKit
open Go.Maps (Keyed)
set_option linter.unusedVariables false
set_option linter.unusedSimpArgs false
def tminK (ks : List Kn) (N : Nat) (l : List Nat) : Nat := l.foldl (fun t n => min t (topK ks n)) N
theorem tminK_snoc (ks : List Kn) (N : Nat) (l : List Nat) (n : Nat) : tminK ks N (l ++ [n]) = min (tminK ks N l) (topK ks n) := by simp [tminK]
theorem tminK_le (ks : List Kn) : ∀ (l : List Nat) (N : Nat), tminK ks N l ≤ N ∧ ∀ n ∈ l, tminK ks N l ≤ topK ks n
  | [], N => ⟨Nat.le_refl _, fun n hn => by cases hn⟩
  | a :: l, N => by
    obtain ⟨h1, h2⟩ := tminK_le ks l (min N (topK ks a))
    have e : tminK ks N (a :: l) = tminK ks (min N (topK ks a)) l := rfl
    rw [e]
    refine ⟨by omega, fun n hn => ?_⟩
    rcases List.mem_cons.1 hn with rfl | hn
    · omega
    · exact h2 n hn
theorem wyes_snoc : ∀ (a : List Nat) (n : Nat) (ws : List Int), a.length < ws.length → wyes (a ++ [n]) ws = wyes a ws + if n = 1 then ws.getD a.length 0 else 0
  | [], n, w :: ws, _ => by cases ws <;> simp [wyes]
  | x :: a, n, w :: ws, h => by
    have := wyes_snoc a n ws (by simpa using h)
    simp only [List.cons_append, wyes, this, List.length_cons, List.getD_cons_succ]
    omega
  | [], n, [], h => by simp at h
  | x :: a, n, [], h => by simp at h
/-- The sum that best has when it has looked at some nodes. -/
def sumP (l : List Nat) (ws : List Int) : Int := wyes (l.drop 1) ws
theorem sumP_snoc {l : List Nat} {n : Nat} {ws : List Int} (hl : l.length ≤ ws.length) : sumP (l ++ [n]) ws = sumP l ws + if 0 < l.length ∧ n = 1 then ws.getD (l.length - 1) 0 else 0 := by
  unfold sumP
  match l with
  | [] => simp [wyes]
  | x :: l =>
    simp only [List.cons_append, List.drop_succ_cons, List.drop_zero, List.length_cons]
    rw [wyes_snoc l n ws (by simp at hl; omega)]
    by_cases h : n = 1 <;> simp [h]
theorem wyes_bd : ∀ (a : List Nat) (ws : List Int), (∀ x ∈ ws, -1000000 ≤ x ∧ x ≤ 1000000) → -1000000 * (a.length : Int) ≤ wyes a ws ∧ wyes a ws ≤ 1000000 * (a.length : Int)
  | [], ws, _ => by cases ws <;> simp [wyes]
  | n :: a, [], _ => by simp [wyes]; omega
  | n :: a, x :: ws, h => by
    have h1 := wyes_bd a ws fun y hy => h y (by simp [hy])
    have h2 := h x (by simp)
    simp only [wyes, List.length_cons]
    split <;> omega
theorem wsum_bd (ks : List Kn) (v : Nat → Bool) : ∀ (a : List Nat) (ws : List Int), (∀ x ∈ ws, -1000000 ≤ x ∧ x ≤ 1000000) → -1000000 * (a.length : Int) ≤ wsum ks v a ws ∧ wsum ks v a ws ≤ 1000000 * (a.length : Int)
  | [], ws, _ => by cases ws <;> simp [wsum]
  | n :: a, [], _ => by simp [wsum]; omega
  | n :: a, x :: ws, h => by
    have h1 := wsum_bd ks v a ws fun y hy => h y (by simp [hy])
    have h2 := h x (by simp)
    simp only [wsum, List.length_cons]
    split <;> omega
theorem bestK_bd {ks : List Kn} {N : Nat} {nodes : List Nat} {ws : List Int} (hw : ∀ x ∈ ws, -1000000 ≤ x ∧ x ≤ 1000000) (hn : nodes.length ≤ 1000) (l : List Bool) : leastI ≤ bestK ks N nodes ws l ∧ bestK ks N nodes ws l ≤ 1000000000 := by
  refine ⟨maxL_least _, ?_⟩
  rcases (by have := maxL_least ((exts (N - l.length) l).map fun x => valI ks (vf x) nodes ws); omega : maxL ((exts (N - l.length) l).map fun x => valI ks (vf x) nodes ws) = leastI ∨ leastI < maxL ((exts (N - l.length) l).map fun x => valI ks (vf x) nodes ws)) with h | h
  · unfold bestK; rw [h]; unfold leastI; omega
  · have := maxL_attained _ h
    rw [List.mem_map] at this
    obtain ⟨x, _, hx⟩ := this
    unfold bestK
    rw [← hx]
    unfold valI
    split
    · unfold leastI; omega
    · rename_i n ns
      have := wsum_bd ks (vf x) ns ws hw
      simp only [List.length_cons] at hn
      split
      · omega
      · unfold leastI; omega
/-- What best leaves. -/
structure BstR (F : Fo) (wp : Nat) (wsv : Value) (ws : List Int) (kb d : Nat) (w : World) (cnt : Nat) (w' : World) (m' : SmL → Option Int) (cnt' : Nat) : Prop where
  keep : Keeps (fun k => k = kb) w w'
  here : WgAt w' F wp wsv ws kb cnt' m'
  cnt : cnt' + 1 ≤ cnt + 2 ^ (d + 1)
theorem BstR.cells {F : Fo} {wp : Nat} {wsv : Value} {ws : List Int} {kb d : Nat} {w : World} {cnt : Nat} {w' : World} {m m' : SmL → Option Int} {cnt' : Nat} (r : BstR F wp wsv ws kb d w cnt w' m' cnt') (h : WgAt w F wp wsv ws kb cnt m) : ∀ b o, b < w.heap.size → w'.cell? ⟨b, o, none⟩ = w.cell? ⟨b, o, none⟩ := keepsMap r.keep h.map r.here.map
theorem max_ifs (a b : Int) : (if a < b then b else a) = max a b := by split <;> omega
theorem min_ifs (a b : Int) : (if b < a then b else a) = min a b := by split <;> omega
set_option maxRecDepth 100000 in
theorem bestNo_any (wp : Nat) (ns : List Nat) (v : Value) (w : World) (hn : Nods w w.heap.size v (0 :: ns)) :
    Calls Tryd.prog 31 #[.pointer (some ⟨wp, 0, none⟩), v] w fun e w' => e = .returned (.int .i64 leastI) ∧ w = w' := by
  obtain ⟨A, b0, off, cap, rfl, hnc, hA, hc⟩ := hn
  obtain ⟨rfl, hbb⟩ : A = some ⟨b0, off, none⟩ ∧ b0 < w.heap.size := by
    rcases hA with h | h
    · exact h
    · simp at h
  have c0 := hc 0 0 (by simp) (by omega)
  simp only [Nat.zero_mul, Nat.add_zero, List.getD_cons_zero] at c0
  have hlen : 0 < (0 :: ns).length := by simp
  have hlen2 : (0 : Int) < ((0 :: ns).length : Int) := by omega
  obtain ⟨n, hn⟩ : ∃ n, (0 :: ns).length = n := ⟨_, rfl⟩
  rw [hn] at hlen hlen2 ⊢
  clear hc hA hnc hn
  go_enter Tryd.func31, Tryd.ntmps31
  go_wp2_with fail
  go_ret
  exact ⟨rfl, rfl⟩
theorem tminK_ge {ks : List Kn} {t : Nat} : ∀ (l : List Nat) (N : Nat), t ≤ N → (∀ n ∈ l, t ≤ topK ks n) → t ≤ tminK ks N l
  | [], N, h, _ => h
  | a :: l, N, h, h2 => tminK_ge l (min N (topK ks a)) (by have := h2 a (by simp); omega) fun n hn => h2 n (by simp [hn])
theorem min_val {a b : Nat} : Value.int .i64 (if b < a then (b : Int) else (a : Int)) = .int .i64 ((min a b : Nat) : Int) := by
  split
  · congr 1; omega
  · congr 1; omega
set_option maxRecDepth 100000 in
set_option maxHeartbeats 8000000 in
theorem best_any (F : Fo) (wp : Nat) (wsv : Value) (ws : List Int) (kb : Nat) (hw : ∀ x ∈ ws, -1000000 ≤ x ∧ x ≤ 1000000) (hws : ws.length ≤ 900) : ∀ (d : Nat) (nodes : List Nat) (v : Value) (w : World) (m : SmL → Option Int) (cnt : Nat), WgAt w F wp wsv ws kb cnt m → nodes.length = ws.length + 1 → (∀ n ∈ nodes, n < F.ks.length) → F.N - tminK F.ks F.N nodes ≤ d → Nods w w.heap.size v nodes → cnt + 2 ^ (d + 1) ≤ 1073741824 →
    Calls Tryd.prog 31 #[.pointer (some ⟨wp, 0, none⟩), v] w
      fun e w' => ∃ m' cnt', e = .returned (.int .i64 (bestK F.ks F.N nodes ws [])) ∧ BstR F wp wsv ws kb d w cnt w' m' cnt' := by
  intro d
  induction d using Nat.strongRecOn with
  | ind d ih =>
  intro nodes v w m cnt h hlen hlt hd hn hc
  have hpp := pow_pos2 (d + 1)
  obtain ⟨n0, ns, rfl⟩ : ∃ n0 ns, nodes = n0 :: ns := by
    match nodes, hlen with
    | [], hlen => simp at hlen
    | n0 :: ns, _ => exact ⟨n0, ns, rfl⟩
  by_cases h0 : n0 = 0
  · subst h0
    refine (bestNo_any wp ns v w hn).mono ?_
    rintro e w' ⟨rfl, rfl⟩
    exact ⟨m, cnt, by rw [bestK_no], ⟨Keeps.refl _ _, h, by omega⟩⟩
  have h01 : ((n0 : Int) == 0) = false := by simp; omega
  have hn' := hn
  obtain ⟨A, b0, off, cap, rfl, hnc, hA, hcell⟩ := hn'
  obtain ⟨rfl, hbb⟩ : A = some ⟨b0, off, none⟩ ∧ b0 < w.heap.size := by
    rcases hA with h | h
    · exact h
    · simp at h
  have c0 := hcell 0 0 (by simp) (by omega)
  simp only [Nat.zero_mul, Nat.add_zero, List.getD_cons_zero] at c0
  obtain ⟨nodes, hnd⟩ : ∃ nodes, n0 :: ns = nodes := ⟨_, rfl⟩
  have hn0 : nodes.getD 0 0 = n0 := by rw [← hnd]; rfl
  rw [hnd] at hlen hlt hd hn hnc hcell ⊢
  have hl0 : 0 < nodes.length := by omega
  have hl1 : (0 : Int) < (nodes.length : Int) := by omega
  have hl2 : (nodes.length : Int) ≤ 1000 := by omega
  have e0 := cellOf h.box 0
  have e1 := cellOf h.box 1
  have e2 := cellOf h.box 2
  have d0 := h.fo.cellN
  have d1 := h.fo.cellS
  have hsm := h.fo.small
  obtain ⟨Aw, bw, offw, capw, rfl, hncw, hAw, hcw⟩ := h.wts
  have H := hide h
  have HN := hide hn
  have HC := hide hcell
  have HLT := hide hlt
  have HAW := hide hAw
  have HCW := hide hcw
  have HW := hide hw
  have HIH := hide ih
  have HD : Hid (F.N - tminK F.ks F.N nodes ≤ d ∧ cnt + 2 ^ (d + 1) ≤ 1073741824) := ⟨hd, hc⟩
  have HND : Hid (n0 :: ns = nodes ∧ nodes.getD 0 0 = n0 ∧ n0 ≠ 0) := ⟨hnd, hn0, h0⟩
  have HLEN : Hid (nodes.length = ws.length + 1) := hlen
  clear h hn hcell hlt hAw hcw hw ih hd hc hnd hn0 h0 hA hlen hpp
  go_enter Tryd.func31, Tryd.ntmps31
  go_wp2_with fail
  go_loop [5, 6, 26] (fun t s i => ∃ k : Nat, k ≤ nodes.length ∧ i = .int .i64 k ∧ t = .int .i64 (tminK F.ks F.N (nodes.take k) : Nat) ∧ s = .int .i64 (sumP (nodes.take k) ws)) (fun _ _ i => nodes.length - (intOf i).toNat)
  case atStart => exact ⟨0, Nat.zero_le _, rfl, rfl, rfl⟩
  case round =>
    obtain ⟨k, hk, rfl, rfl, rfl⟩ := hrel
    by_cases hkl : k < nodes.length
    · obtain ⟨x, hx⟩ : ∃ x, nodes.getD k 0 = x := ⟨_, rfl⟩
      have hxl : x < F.ks.length := HLT.out x (by rw [← hx]; exact getD_mem hkl)
      have c1 : w.cell? ⟨b0, off + k, none⟩ = some (.int .i64 (x : Nat)) := by
        have h1 := HC.out k 0 hkl (by omega)
        rwa [Nat.mul_one, Nat.add_zero, hx] at h1
      obtain ⟨k0, _, _⟩ := H.out.fo.knot hxl
      have hx0 : (0 : Int) ≤ (x : Int) := by omega
      have hx1 : (x : Int) < (F.ks.length : Int) := by omega
      have hts := tminK_snoc F.ks F.N (nodes.take k) x
      have hss := sumP_snoc (l := nodes.take k) (n := x) (ws := ws) (by have := HLEN.out; simp; omega)
      rw [← hx, ← take_getD hkl, hx] at hts hss
      have hlk : (nodes.take k).length = k := by simp; omega
      rw [hlk] at hss
      obtain ⟨t, ht⟩ : ∃ t, tminK F.ks F.N (nodes.take k) = t := ⟨_, rfl⟩
      obtain ⟨s, hs⟩ : ∃ s, sumP (nodes.take k) ws = s := ⟨_, rfl⟩
      have hsb := wyes_bd ((nodes.take k).drop 1) ws HW.out
      have hsb2 : -1000000000 ≤ s ∧ s ≤ 1000000000 := by
        rw [← hs]
        unfold sumP
        have : ((nodes.take k).drop 1).length ≤ 1000 := by simp; omega
        omega
      obtain ⟨hs1, hs2⟩ := hsb2
      rw [ht] at hts ⊢
      rw [hs] at hss ⊢
      have HTS := hide hts
      have HSS := hide hss
      have HX0 := hide hx
      clear hts hss hlk ht hs hsb hx
      by_cases hk0 : k = 0
      · subst hk0
        obtain rfl : n0 = x := HND.out.2.1.symm.trans HX0.out
        have hf : ¬ (0 : Int) < ((0 : Nat) : Int) := by omega
        go_wp2_with fail
        go_round
        case rel => exact ⟨1, by omega, rfl, by rw [HTS.out]; exact min_val, by rw [HSS.out, if_neg (by omega)]; simp⟩
        case measure => simp [intOf]; omega
      · have hf : (0 : Int) < (k : Int) := by omega
        by_cases hx1' : x = 1
        · have hxe : ((x : Int) == 1) = true := by simp [hx1']
          have hkw : k - 1 < ws.length := by have := HLEN.out; omega
          obtain ⟨y, hy⟩ : ∃ y, ws.getD (k - 1) 0 = y := ⟨_, rfl⟩
          have hyb := HW.out y (by rw [← hy]; exact getD_mem hkw)
          obtain ⟨rfl, hbw⟩ : Aw = some ⟨bw, offw, none⟩ ∧ bw < w.heap.size := by
            rcases HAW.out with h | h
            · exact h
            · omega
          have g0 : w.cell? ⟨bw, offw + (k - 1), none⟩ = some (.int .i64 y) := by
            have h1 := HCW.out (k - 1) 0 hkw (by omega)
            rwa [Nat.mul_one, Nat.add_zero, hy] at h1
          have j0 : (1 : Int) ≤ (k : Int) := by omega
          have j1 : ((k : Int) - 1).toNat = k - 1 := by omega
          have j2 : (k : Int) - 1 < (ws.length : Int) := by omega
          obtain ⟨hy1, hy2⟩ := hyb
          have HX := hide hx1'
          have HY := hide hy
          have HK := hide hk0
          clear hx1' hy hk0 hkw
          go_wp2_with fail
          go_round
          case rel => exact ⟨k + 1, by omega, by go_num, by rw [HTS.out]; exact min_val, by rw [HSS.out, if_pos ⟨by have := HK.out; omega, HX.out⟩, HY.out]⟩
          case measure => simp [intOf]; omega
        · have hxe : ((x : Int) == 1) = false := by simp; omega
          have HX := hide hx1'
          clear hx1' hk0
          go_wp2_with fail
          go_round
          case rel => exact ⟨k + 1, by omega, by go_num, by rw [HTS.out]; exact min_val, by rw [HSS.out, if_neg (fun e => HX.out e.2)]; simp⟩
          case measure => simp [intOf]; omega
    · obtain rfl : k = nodes.length := by omega
      rw [List.take_length]
      obtain ⟨hml, hmle⟩ := tminK_le F.ks nodes F.N
      obtain ⟨t, ht⟩ : ∃ t, tminK F.ks F.N nodes = t := ⟨_, rfl⟩
      have hsb := wyes_bd (nodes.drop 1) ws HW.out
      have hsb2 : ((nodes.drop 1).length : Int) ≤ 1000 := by simp; omega
      rw [ht] at hml hmle ⊢
      by_cases htN : t = F.N
      · have hends : ∀ n ∈ nodes, n < 2 := fun n hn => by
          rcases Nat.lt_or_ge n 2 with h2 | h2
          · exact h2
          · have := H.out.fo.wf.opt n h2 (HLT.out n hn)
            have := hmle n hn
            omega
        have hb1 : bestK F.ks F.N nodes ws [] = sumP nodes ws := by
          obtain ⟨q1, q2, q3⟩ := HND.out
          have : n0 = 1 := by have := hends n0 (by rw [← q1]; simp); omega
          rw [← q1, this]
          have h5 : sumP (1 :: ns) ws = wyes ns ws := rfl
          rw [h5]
          refine bestK_ends [] (fun n hn => hends n (by rw [← q1]; simp [hn])) ?_
          have h6 : nodes.drop 1 = ns := by rw [← q1]; rfl
          rw [h6] at hsb hsb2
          unfold leastI
          omega
        have hte : ((t : Int) == (F.N : Int)) = true := by simp [htN]
        have HB1 := hide hb1
        have hpp := pow_pos2 (d + 1)
        have HPP := hide hpp
        clear htN hends hb1 hsb hsb2 ht hml hmle hpp
        go_wp2_with fail
        go_ret
        exact ⟨ret_int HB1.out.symm, m, cnt, ⟨Keeps.refl _ _, H.out, by have := HPP.out; omega⟩⟩
      · have htN2 : t < F.N := by omega
        have hte : ((t : Int) == (F.N : Int)) = false := by simp; omega
        have hsm30 : ∀ n ∈ nodes, n < 1073741824 := fun n hn => by have := HLT.out n hn; omega
        have hkey := key_any nodes (.slice (some ⟨b0, off, none⟩) nodes.length cap) w.heap.size w (by omega) hsm30 HN.out (Nat.le_refl _)
        have HKEY := hide hkey
        obtain ⟨s, hs⟩ : ∃ s, sumP nodes ws = s := ⟨_, rfl⟩
        rw [hs]
        have HS30 := hide hsm30
        have HT := hide ht
        have HMLE := hide hmle
        obtain ⟨kl, hkl⟩ := enSKey (a := ⟨nodes, HS30.out⟩) (by show nodes.length ≤ 1000; omega)
        have HKL := hide hkl
        clear htN hsb hsb2 ht hml hmle hkey hs hsm30 hkl
        cases hmx : m ⟨nodes, HS30.out⟩ with
        | some x =>
          have hxe : x = bestK F.ks F.N nodes ws [] := H.out.ok _ _ hmx
          have HXE := hide hxe
          have HMX := hide hmx
          have hpp := pow_pos2 (d + 1)
          have HPP := hide hpp
          clear hxe hmx hpp
          go_wp2_with (go_at_call 49; refine HKEY.out.mono ?_; rintro e w1 ⟨rfl, hB1⟩; have HB1 := hide hB1; have hwg := H.out.below hB1; have HWG := hide hwg; have f0 := cellOf hwg.box 0; have f1 := cellOf hwg.box 1; have f2 := cellOf hwg.box 2; have hlk : (Instr.lookup 75 (.map (some kb)) (.string (kyS nodes)) true).run Tryd.prog w1 = .ok (.tuple #[.int .i64 x, .bool true]) w1 := (by have h1 := hwg.map.look stLaw Tryd.underlying75 Tryd.underlying3 (zInt w1) HKL.out; rw [HMX.out] at h1; exact h1); clear hB1 hwg)
          go_ret
          first | exact ⟨ret_int HXE.out, m, cnt, ⟨Keeps.of_below HB1.out, HWG.out, by have := HPP.out; omega⟩⟩ | exact ⟨m, cnt, ret_int HXE.out, ⟨Keeps.of_below HB1.out, HWG.out, by have := HPP.out; omega⟩⟩
        | none =>
          have HMX := hide hmx
          clear hmx
          have hd1 : 1 ≤ d := by have := HD.out.1; have := HT.out; omega
          have hp2 : 2 ^ (d + 1) = 2 ^ (d - 1 + 1) + 2 ^ (d - 1 + 1) := by rw [show d - 1 + 1 = d by omega, Nat.pow_succ]; omega
          have HP2 := hide hp2
          have hsl : ∀ b, ∀ n ∈ nodes.map (fun n => brK F.ks n t b), n < F.ks.length := fun b n hn => by
            rw [List.mem_map] at hn
            obtain ⟨x, hx, rfl⟩ := hn
            exact brK_lt H.out.fo.wf (HLT.out x hx) htN2
          have hst : ∀ b, F.N - tminK F.ks F.N (nodes.map fun n => brK F.ks n t b) ≤ d - 1 := fun b => by
            have h1 : t + 1 ≤ tminK F.ks F.N (nodes.map fun n => brK F.ks n t b) := tminK_ge _ _ (by omega) fun n hn => by
              rw [List.mem_map] at hn
              obtain ⟨x, hx, rfl⟩ := hn
              exact brK_top H.out.fo.wf (HLT.out x hx) htN2 (HMLE.out x hx)
            have h2 := HD.out.1
            rw [HT.out] at h2
            omega
          have hbs := bestK_step H.out.fo.wf (ws := ws) HLT.out htN2 HMLE.out
          have hba := bestK_bd (ks := F.ks) (N := F.N) (nodes := nodes.map fun n => brK F.ks n t false) HW.out (by simp; omega) []
          have hbb2 := bestK_bd (ks := F.ks) (N := F.N) (nodes := nodes.map fun n => brK F.ks n t true) HW.out (by simp; omega) []
          obtain ⟨a, ha⟩ : ∃ a, bestK F.ks F.N (nodes.map fun n => brK F.ks n t false) ws [] = a := ⟨_, rfl⟩
          obtain ⟨b, hb⟩ : ∃ b, bestK F.ks F.N (nodes.map fun n => brK F.ks n t true) ws [] = b := ⟨_, rfl⟩
          rw [ha] at hbs hba
          rw [hb] at hbs hbb2
          unfold leastI at hba hbb2
          have hwf : (Lit.int .i64 a).wf = true ∧ (Lit.int .i64 b).wf = true := ⟨wf63 (by unfold I63; omega), wf63 (by unfold I63; omega)⟩
          have HSL := hide hsl
          have HST := hide hst
          have HBS := hide hbs
          have HAB := hide (And.intro ha hb)
          have HWF := hide hwf
          clear hp2 hsl hst hbs hba hbb2 ha hb hwf
          go_wp2_with (go_at_call 49; refine HKEY.out.mono ?_; rintro e w1 ⟨rfl, hB1⟩; have HB1 := hide hB1; have hwg := H.out.below hB1; have HWG := hide hwg; have f0 := cellOf hwg.box 0; have f1 := cellOf hwg.box 1; have f2 := cellOf hwg.box 2; have hlk : (Instr.lookup 75 (.map (some kb)) (.string (kyS nodes)) true).run Tryd.prog w1 = .ok (.tuple #[.int .i64 0, .bool false]) w1 := (by have h1 := hwg.map.look stLaw Tryd.underlying75 Tryd.underlying3 (zInt w1) HKL.out; rw [HMX.out] at h1; exact h1); clear hB1 hwg)
          have hN1 : Nods w1 w1.heap.size (.slice (some ⟨b0, off, none⟩) nodes.length cap) nodes := HN.out.up HB1.out
          have HN1 := hide hN1
          clear hN1 hlk f0 f1 f2
          refine (step_any F wp _ ws kb cnt m nodes t false _ w1 HWG.out (by omega) HLT.out HN1.out).mono ?_
          rintro e w2 ⟨v2, rfl, hn2, hB2⟩
          obtain ⟨A2, cap2, rfl⟩ := Sl.form hn2
          rw [List.length_map] at hn2 ⊢
          have hwg2 := HWG.out.below hB2
          have HB2 := hide hB2
          have HWG2 := hide hwg2
          have HN2 : Hid (Nods w2 w2.heap.size (.slice (some ⟨b0, off, none⟩) nodes.length cap) nodes) := HN1.out.up hB2
          have hbe := HIH.out (d - 1) (by omega) (nodes.map fun n => brK F.ks n t false) _ w2 m cnt hwg2 (by rw [List.length_map]; exact HLEN.out) (HSL.out false) (HST.out false) hn2 (by have := HD.out.2; have := HP2.out; have := pow_pos2 (d - 1 + 1); omega)
          rw [HAB.out.1] at hbe
          have HBE := hide hbe
          clear hn2 hB2 hwg2 hbe
          go_wp2_with fail
          refine HBE.out.mono ?_
          rintro e w3 ⟨m1, cnt1, rfl, r1⟩
          have R1 := hide r1
          have HN3 : Hid (Nods w3 w3.heap.size (.slice (some ⟨b0, off, none⟩) nodes.length cap) nodes) := Sl.more (Sl.keep HN2.out (r1.cells HWG2.out)) r1.keep.size
          clear r1
          go_wp2_with fail
          refine (step_any F wp _ ws kb cnt1 m1 nodes t true _ w3 R1.out.here (by omega) HLT.out HN3.out).mono ?_
          rintro e w4 ⟨v4, rfl, hn4, hB4⟩
          obtain ⟨A4, cap4, rfl⟩ := Sl.form hn4
          rw [List.length_map] at hn4 ⊢
          have hwg4 := R1.out.here.below hB4
          have HB4 := hide hB4
          have hbe := HIH.out (d - 1) (by omega) (nodes.map fun n => brK F.ks n t true) _ w4 m1 cnt1 hwg4 (by rw [List.length_map]; exact HLEN.out) (HSL.out true) (HST.out true) hn4 (by have := HD.out.2; have := HP2.out; have := R1.out.cnt; have := pow_pos2 (d - 1 + 1); omega)
          rw [HAB.out.2] at hbe
          have HBE4 := hide hbe
          clear hn4 hB4 hwg4 hbe
          go_wp2_with fail
          refine HBE4.out.mono ?_
          rintro e w5 ⟨m2, cnt2, rfl, r2⟩
          have R2 := hide r2
          have f0 := cellOf r2.here.box 0
          have f1 := cellOf r2.here.box 1
          have f2 := cellOf r2.here.box 2
          have hcn : cnt2 < maxLen := by
            have h1 := R1.out.cnt
            have h2 := r2.cnt
            have h3 := HD.out.2
            have h4 := HP2.out
            unfold maxLen; omega
          clear r2
          by_cases hab : a < b
          · have HAB2 : Hid (a < b) := hab
            go_wp2_with (at_mapUpdate; go_must (refine wpList_put _ rfl _ _ _ 75 rfl R2.out.here.map stLaw Tryd.underlying75 Tryd.underlying3 enS_inj hcn ⟨nodes, HS30.out⟩ ⟨_, HKL.out⟩ b HWF.out.2 rfl rfl rfl ?_); intro w9 hm9 hg9; have HM9 := hide hm9; have HG9 := hide hg9; clear hm9 hg9)
            go_ret
            have hk9 : Keeps (fun i => i = kb) w5 w9 := Keeps.of_grown HG9.out (fun k hk => by injection hk with hk; exact hk.symm)
            have hbest : bestK F.ks F.N nodes ws [] = b := by have := HAB2.out; rw [HBS.out]; omega
            first | refine ⟨ret_int hbest.symm, _, _, ⟨?_, R2.out.here.turn hk9 HM9.out (fun q x hq => ?_), ?_⟩⟩ | refine ⟨_, _, ret_int hbest.symm, ⟨?_, R2.out.here.turn hk9 HM9.out (fun q x hq => ?_), ?_⟩⟩
            · have k1 : Keeps (fun i => i = kb) w w3 := (Keeps.of_below (Below.to HB1.out HB2.out (Nat.le_refl _))).trans R1.out.keep (fun _ _ h => h)
              have k2 : Keeps (fun i => i = kb) w3 w5 := (Keeps.of_below HB4.out).trans R2.out.keep (fun _ _ h => h)
              exact (k1.trans k2 (fun _ _ h => h)).trans hk9 (fun _ _ h => h)
            · unfold putM at hq
              split at hq
              · rename_i e
                injection hq with hq
                rw [e, ← hq]
                exact hbest.symm
              · exact R2.out.here.ok q x hq
            · have h1 := R1.out.cnt
              have h2 := R2.out.cnt
              have h4 := HP2.out
              omega
          · have HAB2 : Hid (¬ a < b) := hab
            go_wp2_with (at_mapUpdate; go_must (refine wpList_put _ rfl _ _ _ 75 rfl R2.out.here.map stLaw Tryd.underlying75 Tryd.underlying3 enS_inj hcn ⟨nodes, HS30.out⟩ ⟨_, HKL.out⟩ a HWF.out.1 rfl rfl rfl ?_); intro w9 hm9 hg9; have HM9 := hide hm9; have HG9 := hide hg9; clear hm9 hg9)
            go_ret
            have hk9 : Keeps (fun i => i = kb) w5 w9 := Keeps.of_grown HG9.out (fun k hk => by injection hk with hk; exact hk.symm)
            have hbest : bestK F.ks F.N nodes ws [] = a := by have := HAB2.out; rw [HBS.out]; omega
            first | refine ⟨ret_int hbest.symm, _, _, ⟨?_, R2.out.here.turn hk9 HM9.out (fun q x hq => ?_), ?_⟩⟩ | refine ⟨_, _, ret_int hbest.symm, ⟨?_, R2.out.here.turn hk9 HM9.out (fun q x hq => ?_), ?_⟩⟩
            · have k1 : Keeps (fun i => i = kb) w w3 := (Keeps.of_below (Below.to HB1.out HB2.out (Nat.le_refl _))).trans R1.out.keep (fun _ _ h => h)
              have k2 : Keeps (fun i => i = kb) w3 w5 := (Keeps.of_below HB4.out).trans R2.out.keep (fun _ _ h => h)
              exact (k1.trans k2 (fun _ _ h => h)).trans hk9 (fun _ _ h => h)
            · unfold putM at hq
              split at hq
              · rename_i e
                injection hq with hq
                rw [e, ← hq]
                exact hbest.symm
              · exact R2.out.here.ok q x hq
            · have h1 := R1.out.cnt
              have h2 := R2.out.cnt
              have h4 := HP2.out
              omega
end Go.Proofs.YtjimbcklnnhloaaDoor

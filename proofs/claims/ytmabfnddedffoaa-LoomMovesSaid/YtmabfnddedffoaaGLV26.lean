/- Part 26 of this claim's texts: walks and plain laws. -/
import Derived.Test.YtmabfnddedffoaaRows
import Derived.Test.YtmabfnddedffoaaGLV21
import Derived.Test.YtmabfnddedffoaaGLV25
import Derived.Deep.RegionHeld3
import Derived.Deep.DrawnRows
import Derived.Test.YtmabfnddedffoaaGLV20
import Derived.Test.YtmabfnddedffoaaGLV24
/- The greatest fill of a run: walk. -/
namespace Go.Proofs.Ytmabfnddedffoaa
open Go.RowKit
set_option linter.unusedVariables false
set_option linter.unusedSimpArgs false
/-- The formulas and the sizes of some wires. -/
def fmsL (l : Lo) (T : List Nat) : List (List Int) := T.map fun i => (l.ws.getD i Wi.o).form
def szsL (l : Lo) (T : List Nat) : List Int := T.map fun i => (l.ws.getD i Wi.o).size
theorem ownsKeep {w w' : World} {b e sz n b2 e2 sz2 n2 : Nat} {v v2 : Value} {xs xs2 : List Value} {o : Obj} (h : w.ownsRow b e sz v n xs) (h2 : w.ownsRow b2 e2 sz2 v2 n2 xs2) (hne : e ≠ e2) (hg : (w.alloc o).grownBy w' v2.ownBlock) : w'.ownsRow b e sz v n xs := by
  refine (h.alloc o).kept hg ?_
  cases hv : v2.ownBlock with
  | none =>
    cases hv1 : v.ownBlock with
    | none => exact .inl rfl
    | some g => exact .inr (by simp)
  | some g =>
    right
    obtain ⟨_, ⟨h3, _⟩ | ⟨g', cap, cur, h3, _, h4, _⟩⟩ := h2
    · rw [h3] at hv; cases hv
    · rw [h3] at hv
      injection hv with hv
      simp only at hv
      subst hv
      exact ownsNot h h4 hne
/-- What worst has gathered. -/
structure WorS (w0 wr : World) (B lb : Nat) (A0 A1 A2 A3 A4 A5 : Option Addr) (q0 q1 q2 q3 q4 q5 : Nat) (l : Lo) (fv sv : Value) (Fs : List (List Int)) (Ss : List Int) (vs : List Value) : Prop where
  below : Below w0.heap.size w0 wr
  box : LoBox wr lb A0 A1 A2 A3 A4 A5 q0 q1 q2 q3 q4 q5 l
  f : OFs w0 66 B wr fv Fs vs
  s : wr.ownsRow B 3 1 sv Ss.length (Ss.map fun (n : Int) => Value.int .i64 n)
  lt : w0.heap.size ≤ B ∧ B ≤ wr.heap.size
section
variable {w0 wr w' : World} {B lb : Nat} {A0 A1 A2 A3 A4 A5 : Option Addr} {q0 q1 q2 q3 q4 q5 : Nat} {l : Lo} {fv sv v1 x : Value} {Fs : List (List Int)} {Ss : List Int} {vs : List Value} {m : Int} {o : Obj} {f : List Int}
theorem own_box {b e sz n t : Nat} {v : Value} {xs : List Value} {C : Array Value} {g : Nat} (h : wr.ownsRow b e sz v n xs) (hg : (wr.alloc o).grownBy w' v.ownBlock) (hb : wr.heap[g]? = some (.cells C t (0, 0))) (hne : e ≠ t) : w'.heap[g]? = some (.cells C t (0, 0)) :=
  (hg.block g (by have := box_lt hb; simp; omega) (fun q => ownsNot h hb hne q.symm)).trans (box_to hb ((Below.refl _ _).alloc (Nat.le_refl _) _))
theorem own_low {b e sz n : Nat} {v : Value} {xs : List Value} (h0 : Below w0.heap.size w0 wr) (h : wr.ownsRow b e sz v n xs) (hb : w0.heap.size ≤ b) (hg : (wr.alloc o).grownBy w' v.ownBlock) : Below w0.heap.size w0 w' :=
  Below.grown (Below.to h0 ((Below.refl wr.heap.size wr).alloc (Nat.le_refl _) o) (Nat.le_refl _)) hg (by have := h0.size; simp; omega) (fun k hk => Nat.le_trans hb (h.lt k hk).1)
theorem WorS.pushF (h : WorS w0 wr B lb A0 A1 A2 A3 A4 A5 q0 q1 q2 q3 q4 q5 l fv sv Fs Ss vs) (hx : Ints w0 w0.heap.size x f) (hown : w'.ownsRow B 66 1 v1 (Fs.length + 1) (vs ++ [x])) (hg : (wr.alloc o).grownBy w' fv.ownBlock) : WorS w0 w' B lb A0 A1 A2 A3 A4 A5 q0 q1 q2 q3 q4 q5 l v1 sv (Fs ++ [f]) Ss (vs ++ [x]) :=
  ⟨own_low h.below h.f.own h.lt.1 hg, own_box h.f.own hg h.box (by decide), h.f.push hx hown, ownsKeep h.s h.f.own (by decide) hg, h.lt.1, by have := hg.size; simp at this; have := h.lt.2; omega⟩
theorem WorS.pushS (h : WorS w0 wr B lb A0 A1 A2 A3 A4 A5 q0 q1 q2 q3 q4 q5 l fv sv Fs Ss vs) (hown : w'.ownsRow B 3 1 v1 (Ss.length + 1) ((Ss.map fun (n : Int) => Value.int .i64 n) ++ [.int .i64 m])) (hg : (wr.alloc o).grownBy w' sv.ownBlock) : WorS w0 w' B lb A0 A1 A2 A3 A4 A5 q0 q1 q2 q3 q4 q5 l fv v1 Fs (Ss ++ [m]) vs :=
  ⟨own_low h.below h.s h.lt.1 hg, own_box h.s hg h.box (by decide), ⟨h.f.len, ownsKeep h.f.own h.s (by decide) hg, h.f.row⟩, by rw [List.length_append, List.length_singleton, List.map_append]; exact hown, h.lt.1, by have := hg.size; simp at this; have := h.lt.2; omega⟩
end
theorem Ints.of_own {w : World} {base : Nat} {v : Value} {S : List Int} (h : w.ownsRow base 3 1 v S.length (S.map fun (n : Int) => Value.int .i64 n)) : Ints w w.heap.size v S :=
  Sl.of_owns h fun i j hi hj => by
    obtain rfl : j = 0 := by omega
    rw [Nat.mul_one, Nat.add_zero]
    simp [hi]
theorem fmsL_snoc (l : Lo) (T : List Nat) (k : Nat) : fmsL l (T ++ [k]) = fmsL l T ++ [(l.ws.getD k Wi.o).form] := by simp [fmsL]
theorem szsL_snoc (l : Lo) (T : List Nat) (k : Nat) : szsL l (T ++ [k]) = szsL l T ++ [(l.ws.getD k Wi.o).size] := by simp [szsL]
theorem take_snoc {T : List Nat} {k : Nat} (h : k < T.length) : T.take (k + 1) = T.take k ++ [T.getD k 0] := by
  rw [List.take_add_one, List.getElem?_eq_getElem h, List.getD_eq_getElem?_getD, List.getElem?_eq_getElem h]
  rfl
theorem thruL_mem {l : Lo} {run i : Nat} (h : i ∈ thruL l run) : i < l.ws.length := by
  unfold thruL at h
  have := (List.mem_filter.1 h).1
  simpa using this
theorem thruL_len (l : Lo) (run : Nat) : (thruL l run).length ≤ l.ws.length := filter_range_len _ _
theorem fms_sized {l : Lo} (hs : SizedL l) (hw : l.ws.length ≤ 60) {T : List Nat} (hT : ∀ i ∈ T, i < l.ws.length) (hl : T.length ≤ 60) : Sized (fmsL l T) := by
  refine ⟨by unfold fmsL maxLen; simp; omega, fun f hf => ?_⟩
  unfold fmsL at hf
  obtain ⟨i, hi, rfl⟩ := List.mem_map.1 hf
  exact (hs.wn _ (getD_mem3 (hT i hi))).2
/-- The greatest fill of a run, its variant, the error. -/
def worN (l : Lo) (run : Nat) : Int := mosN l.m (fmsL l (thruL l run)) (szsL l (thruL l run))
def worX (l : Lo) (run : Nat) : List Bool := mosX l.m (fmsL l (thruL l run)) (szsL l (thruL l run))
def worE (l : Lo) (run : Nat) : Int := mosE l.m (fmsL l (thruL l run)) (szsL l (thruL l run))
set_option maxRecDepth 100000 in
set_option maxHeartbeats 4000000 in
theorem worst_any (run : Nat) (A0 A1 A2 A3 A4 A5 : Option Addr) (q0 q1 q2 q3 q4 q5 : Nat) (l : Lo) (w : World) (hs : SizedL l) (h : LoA w w.heap.size A0 A1 A2 A3 A4 A5 q0 q1 q2 q3 q4 q5 l) (ok : LoOk l) (hr : run < l.us.length) (hN : l.m.opts.length ≤ 12) :
    Calls Try.prog 84 #[.agg #[.slice A0 l.m.opts.length q0, .slice A1 l.m.rules.length q1, .slice A2 l.ss.length q2, .slice A3 l.us.length q3, .slice A4 l.ps.length q4, .slice A5 l.ws.length q5], .int .i64 run] w (MosP (worN l run) (worX l run) (worE l run) w) := by
  obtain ⟨i0, hi0, iz0, iz1, iz2⟩ := info_parts infoInt
  obtain ⟨i1, hi1, jz0, jz1, jz2⟩ := info_parts infoForm
  have H := hide h
  have OK := hide ok
  have HS := hide hs
  have w60 := ok.w60
  obtain ⟨T, hT⟩ : ∃ T, thruL l run = T := ⟨_, rfl⟩
  have hTm : ∀ i ∈ T, i < l.ws.length := fun i hi => thruL_mem (by rw [hT]; exact hi)
  have hTl : T.length ≤ 60 := by rw [← hT]; exact Nat.le_trans (thruL_len l run) w60
  have HT := hide hT
  have HTM := hide hTm
  unfold worN worX worE
  rw [hT]
  clear h ok hs hT hTm
  go_enter Try.func84, Try.ntmps84
  go_upto_region 1 with (fail)
  generalize hw0 : World.alloc _ _ = w0
  obtain ⟨hb0, hB0, hs0⟩ := alloc1 hw0
  have HL0 : Hid (LoBox w0 w.heap.size A0 A1 A2 A3 A4 A5 q0 q1 q2 q3 q4 q5 l) := hb0
  have l0 := box_lt hb0
  have c0 := cellOf hb0 0; have c1 := cellOf hb0 1; have c2 := cellOf hb0 2; have c3 := cellOf hb0 3; have c4 := cellOf hb0 4; have c5 := cellOf hb0 5
  have hth := through_any run A0 A1 A2 A3 A4 A5 q0 q1 q2 q3 q4 q5 l w0 (H.out.up hB0) OK.out hr
  rw [HT.out] at hth
  have HTH := hide hth
  have HB0 := hide hB0
  clear hw0 hb0 hB0 hs0 hth
  go_wp2_with (go_at_call 110; refine HTH.out.mono ?_; rintro e w1 ⟨v1, rfl, hn1, hB1⟩; obtain ⟨At, qt, hv1⟩ := Sl.form hn1; subst hv1; have HN1 := hide hn1; have HL1 := hide (HL0.out.to hB1); have HB1 := hide (Below.to HB0.out hB1 (Nat.le_refl _)); clear hn1 hB1 c0 c1 c2 c3 c4 c5 l0)
  go_loopw [7, 8, 10, 15] (fun fo so _ i wr => ∃ (k : Nat) (A A' : Option Addr) (cap cap' : Nat) (Fs : List (List Int)) (Ss : List Int) (vs : List Value), i = .int .i64 k ∧ fo = .slice A Fs.length cap ∧ so = .slice A' Ss.length cap' ∧ k ≤ T.length ∧ Hid (fmsL l (T.take k) = Fs) ∧ Hid (szsL l (T.take k) = Ss) ∧ Hid (Below w1.heap.size w1 wr) ∧ Hid (WorS w wr w1.heap.size w.heap.size A0 A1 A2 A3 A4 A5 q0 q1 q2 q3 q4 q5 l (.slice A Fs.length cap) (.slice A' Ss.length cap') Fs Ss vs)) (fun _ _ _ i _ => T.length - (intOf i).toNat)
  case atStart => exact ⟨0, _, _, _, _, [], [], [], rfl, rfl, rfl, Nat.zero_le _, rfl, rfl, Below.refl _ _, ⟨HB1.out, HL1.out, OFs.nil _ _ _ _, World.ownsRow_nil _ _ _ _, HB1.out.size, Nat.le_refl _⟩⟩
  case round =>
    obtain ⟨k, A, A', cap, cap', Fs, Ss, vs, rfl, rfl, rfl, hk, HFs, HSs, HBr, R⟩ := hrel
    by_cases hkl : k < T.length
    · have hFl : Fs.length ≤ 60 := by rw [← HFs.out]; unfold fmsL; simp; omega
      have hSl : Ss.length ≤ 60 := by rw [← HSs.out]; unfold szsL; simp; omega
      obtain ⟨bt, ot, rfl, hbt, _, ct⟩ := (HN1.out.up HBr.out).at hkl
      have hqt := Nods.cap HN1.out
      obtain ⟨i, hi⟩ : ∃ i, T.getD k 0 = i := ⟨_, rfl⟩
      have hil : i < l.ws.length := HTM.out i (by rw [← hi]; exact getD_mem3 hkl)
      rw [hi] at ct
      have htk : T.take (k + 1) = T.take k ++ [i] := by rw [take_snoc hkl, hi]
      have hnf : fmsL l (T.take (k + 1)) = Fs ++ [(l.ws.getD i Wi.o).form] := by rw [htk, fmsL_snoc, HFs.out]
      have hns : szsL l (T.take (k + 1)) = Ss ++ [(l.ws.getD i Wi.o).size] := by rw [htk, szsL_snoc, HSs.out]
      obtain ⟨bw, offw, x, Af, qf, HX, rfl, hbw, hq5, HFO, _, _, _, _, _, e5, e6⟩ := H.out.wi hil
      rw [HX.out] at hnf hns
      have HNF := hide hnf
      have HNS := hide hns
      have g5 := (R.out.below.cell (p := ⟨bw, offw + i * 7 + 5, none⟩) hbw).trans e5
      have g6 := (R.out.below.cell (p := ⟨bw, offw + i * 7 + 6, none⟩) hbw).trans e6
      have lbw : bw < wr.heap.size := Nat.lt_of_lt_of_le hbw R.out.below.size
      have ik : (k : Int) < (T.length : Int) := by omega
      have iqt : (T.length : Int) ≤ (qt : Int) := by omega
      have ii : (i : Int) < (l.ws.length : Int) := by omega
      have iq5 : (l.ws.length : Int) ≤ (q5 : Int) := by omega
      have d5 := cellOf R.out.box 5
      have l1 := box_lt R.out.box
      clear hi htk hnf hns hqt
      go_upto_region 7 with (at_builtin; go_must (refine wpList_append_own_at _ rfl (.tmp 19) (.tmp 26) _ rfl (w1.heap.size) 66 i1 _ 1 24 Try.underlying23 hi1 jz0 jz1 jz2 rfl (by omega) _ _ _ rfl ((R.out.f.own).alloc _) ⟨wr.heap.size, 0, none⟩ 1 1 [.slice Af x.form.length qf] rfl rfl (World.news_of_block (heap_alloc_new wr _)) (by simp [Value.oneCell']) (by have h1 := hFl; unfold maxLen; omega) (by have h1 := hFl; omega) (by have h1 := R.out.lt.2; simp; omega) ?_); intro v1 w3 hown1 hg1 _ hat1; obtain ⟨A2', cap2, hv2⟩ := owns_form hown1; subst hv2; have R2 := hide (R.out.pushF HFO.out hown1 hg1); have HBr2 := hide (own_low HBr.out R.out.f.own (Nat.le_refl _) hg1); have z5 := (R2.out.below.cell (p := ⟨bw, offw + i * 7 + 5, none⟩) hbw).trans e5; have y5 := cellOf R2.out.box 5; have l2 := box_lt R2.out.box; have lbw2 : bw < w3.heap.size := Nat.lt_of_lt_of_le hbw R2.out.below.size; clear hown1 hg1 hat1 g5 g6 d5 l1 lbw ct)
      obtain ⟨wm, hwm⟩ : ∃ wm : World, wm = w3 := ⟨_, rfl⟩
      subst hwm
      go_wp2_with (at_builtin; go_must (refine wpList_append_own_at _ rfl (.tmp 28) (.tmp 35) _ rfl (w1.heap.size) 3 i0 _ 1 8 Try.underlying41 hi0 iz0 iz1 iz2 rfl (by omega) _ _ _ rfl ((R2.out.s).alloc _) ⟨wm.heap.size, 0, none⟩ 1 1 [.int .i64 x.size] rfl rfl (World.news_of_block (heap_alloc_new wm _)) (by simp [Value.oneCell']) (by have h1 := hSl; unfold maxLen; omega) (by have h1 := hSl; omega) (by have h1 := R2.out.lt.2; simp; omega) ?_); intro v1 w3 hown1 hg1 _ hat1; obtain ⟨A3', cap3, hv3⟩ := owns_form hown1; subst hv3; have R3 := hide (R2.out.pushS hown1 hg1); have HBr3 := hide (own_low HBr2.out R2.out.s (Nat.le_refl _) hg1); clear hown1 hg1 hat1)
      go_roundw
      case rel => exact ⟨k + 1, A2', A3', cap2, cap3, Fs ++ [x.form], Ss ++ [x.size], _, by go_num, by rw [List.length_append, List.length_singleton], by rw [List.length_append, List.length_singleton], by omega, HNF.out, HNS.out, HBr3.out, by rw [List.length_append, List.length_singleton, List.length_append, List.length_singleton]; exact R3.out⟩
      case measure => simp [intOf]; omega
    · have hke : k = T.length := by omega
      subst hke
      have hFs := HFs.out
      have hSs := HSs.out
      rw [List.take_length] at hFs hSs
      subst hFs
      subst hSs
      have hmo := Most_any l.m (fmsL l T) (szsL l T) _ _ _ _ wr HS.out.m (fms_sized HS.out w60 HTM.out hTl) (H.out.up R.out.below).m (R.out.f.forms R.out.below) (Ints.of_own R.out.s) (by unfold szsL maxLen; simp; omega) (fun _ => hN)
      obtain ⟨a, ha⟩ : ∃ z, mosN l.m (fmsL l T) (szsL l T) = z := ⟨_, rfl⟩
      obtain ⟨b, hb⟩ : ∃ z, mosX l.m (fmsL l T) (szsL l T) = z := ⟨_, rfl⟩
      obtain ⟨c, hc⟩ : ∃ z, mosE l.m (fmsL l T) (szsL l T) = z := ⟨_, rfl⟩
      rw [ha, hb, hc] at hmo
      have HMO := hide hmo
      have HA := hide ha
      have HB := hide hb
      have HC := hide hc
      have d0 := cellOf R.out.box 0; have d1 := cellOf R.out.box 1; have d2 := cellOf R.out.box 2; have d3 := cellOf R.out.box 3; have d4 := cellOf R.out.box 4; have d5 := cellOf R.out.box 5
      have l1 := box_lt R.out.box
      clear hmo ha hb hc
      go_wp2_with (go_at_call 138; refine HMO.out.mono ?_; rintro e w2 ⟨v2, rfl, hv2, hB2⟩; have HV2 := hide hv2; have HB2 := hide (Below.to R.out.below hB2 (Nat.le_refl _)); clear hv2 hB2 d0 d1 d2 d3 d4 d5 l1)
      go_ret3
      exact ⟨v2, by rw [HA.out, HC.out]; rfl, by rw [HB.out]; exact HV2.out, HB2.out⟩
end Go.Proofs.Ytmabfnddedffoaa
/- The greatest fill, asked from outside: walk. -/
namespace Go.Proofs.Ytmabfnddedffoaa
open Go.RowKit
set_option linter.unusedVariables false
set_option linter.unusedSimpArgs false
/-- The loom's error, or an argument's. -/
def havE (l : Lo) (b : Bool) : Int := if l.err ≠ 0 then l.err else mustE b 1
theorem havE_ok {l : Lo} {b : Bool} (h : havE l b = 0) : LoOk l ∧ b = true := by
  unfold havE at h
  by_cases h1 : l.err = 0
  · rw [if_neg (by simp [h1])] at h
    refine ⟨Lo.err_ok h1, ?_⟩
    cases b with
    | true => rfl
    | false => exact absurd h (by decide)
  · rw [if_pos h1] at h
    exact absurd h h1
set_option maxRecDepth 100000 in
set_option maxHeartbeats 1000000 in
theorem have_worst (p0 p1 : Value) (b : Bool) (A0 A1 A2 A3 A4 A5 : Option Addr) (q0 q1 q2 q3 q4 q5 : Nat) (l : Lo) (w : World) (hs : SizedL l) (h : LoA w w.heap.size A0 A1 A2 A3 A4 A5 q0 q1 q2 q3 q4 q5 l)
    (hf : l.err = 0 → ∀ W, Below w.heap.size w W → Calls Try.prog 83 #[p0, p1] W fun e w' => e = .returned (.bool b) ∧ Below W.heap.size W w') :
    Calls Try.prog 82 #[.agg #[.slice A0 l.m.opts.length q0, .slice A1 l.m.rules.length q1, .slice A2 l.ss.length q2, .slice A3 l.us.length q3, .slice A4 l.ps.length q4, .slice A5 l.ws.length q5], .func (.func 83) #[] #[p0, p1]] w fun e w' => e = .returned (.int .i64 (havE l b)) ∧ Below w.heap.size w w' := by
  have H := hide h
  have HF := hide hf
  obtain ⟨z, hz⟩ : ∃ z, l.err = z := ⟨_, rfl⟩
  have HZ := hide hz
  clear h hf
  by_cases hz0 : z = 0
  · subst hz0
    have hr : havE l b = mustE b 1 := by unfold havE; rw [hz]; rfl
    rw [hr]
    have hf := HF.out hz
    have HF2 := hide hf
    clear hf hz hr
    go_enter Try.func82, Try.ntmps82
    go_upto_region 1 with (fail)
    generalize hw0 : World.alloc _ _ = w0
    obtain ⟨hb0, hB0, hs0⟩ := alloc1 hw0
    have c0 := cellOf hb0 0; have c1 := cellOf hb0 1; have c2 := cellOf hb0 2; have c3 := cellOf hb0 3; have c4 := cellOf hb0 4; have c5 := cellOf hb0 5
    have hlb := box_lt hb0
    have hck := Check_any A0 A1 A2 A3 A4 A5 q0 q1 q2 q3 q4 q5 l w0 hs (H.out.up hB0)
    rw [HZ.out] at hck
    have HCK := hide hck
    have HB0 := hide hB0
    clear hw0 hb0 hB0 hs0 hck
    go_wp2_with (first | (go_at_call 17; refine HCK.out.mono ?_; rintro e w1 ⟨rfl, hB1⟩; have HB1 := hide (Below.to HB0.out hB1 (Nat.le_refl _)); clear hB1 c0 c1 c2 c3 c4 c5 hlb) | (go_at_call 83; refine (HF2.out _ HB1.out).mono ?_; rintro e w2 ⟨rfl, hB2⟩; have HB2 := hide (Below.to HB1.out hB2 (Nat.le_refl _)); clear hB2) | (go_at_call 57; refine (must_any _ _ _).mono ?_; rintro e w3 ⟨rfl, rfl⟩))
    go_ret
    exact ⟨rfl, HB2.out⟩
  · have hr : havE l b = z := by unfold havE; rw [hz, if_pos hz0]
    have hz1 : (z != 0) = true := by simpa using hz0
    rw [hr]
    clear hz hr hz0
    go_enter Try.func82, Try.ntmps82
    go_upto_region 1 with (fail)
    generalize hw0 : World.alloc _ _ = w0
    obtain ⟨hb0, hB0, hs0⟩ := alloc1 hw0
    have c0 := cellOf hb0 0; have c1 := cellOf hb0 1; have c2 := cellOf hb0 2; have c3 := cellOf hb0 3; have c4 := cellOf hb0 4; have c5 := cellOf hb0 5
    have hlb := box_lt hb0
    have hck := Check_any A0 A1 A2 A3 A4 A5 q0 q1 q2 q3 q4 q5 l w0 hs (H.out.up hB0)
    rw [HZ.out] at hck
    have HCK := hide hck
    have HB0 := hide hB0
    clear hw0 hb0 hB0 hs0 hck
    go_wp2_with (go_at_call 17; refine HCK.out.mono ?_; rintro e w1 ⟨rfl, hB1⟩; have HB1 := hide (Below.to HB0.out hB1 (Nat.le_refl _)); clear hB1 c0 c1 c2 c3 c4 c5 hlb)
    go_ret
    exact ⟨rfl, HB1.out⟩

set_option maxRecDepth 100000 in
theorem worst1_any (run : Int) (A0 A1 A2 A3 A4 A5 : Option Addr) (q0 q1 q2 q3 q4 q5 : Nat) (l : Lo) (rb lb : Nat) (w : World) (hm : l.us.length ≤ maxLen) (hr : w.heap[rb]? = some (.cells #[.int .i64 run] 3 (0, 0))) (h : LoBox w lb A0 A1 A2 A3 A4 A5 q0 q1 q2 q3 q4 q5 l) :
    Calls Try.prog 83 #[.pointer (some ⟨rb, 0, none⟩), .pointer (some ⟨lb, 0, none⟩)] w fun e w' => e = .returned (.bool (btw run 0 ((l.us.length : Int) - 1))) ∧ Below w.heap.size w w' := by
  have c3 := cellOf h 3
  have d0 := cellOf hr 0
  have hlb := box_lt h
  have hlr := box_lt hr
  unfold maxLen at hm
  clear h hr
  go_enter Try.func83, Try.ntmps83
  go_wp2_with (go_at_call 54; refine (within_any _ _ _ _).mono ?_; rintro e w1 ⟨rfl, rfl⟩)
  go_ret
  exact ⟨rfl, Below.refl _ _⟩
/-- What Worst answers. -/
def wrsE (l : Lo) (run : Int) : Int := havE l (btw run 0 ((l.us.length : Int) - 1))
set_option maxRecDepth 100000 in
set_option maxHeartbeats 2000000 in
theorem Worst_any (run : Int) (A0 A1 A2 A3 A4 A5 : Option Addr) (q0 q1 q2 q3 q4 q5 : Nat) (l : Lo) (w : World) (hs : SizedL l) (h : LoA w w.heap.size A0 A1 A2 A3 A4 A5 q0 q1 q2 q3 q4 q5 l) (hN : l.m.opts.length ≤ 12) :
    Calls Try.prog 20 #[.agg #[.slice A0 l.m.opts.length q0, .slice A1 l.m.rules.length q1, .slice A2 l.ss.length q2, .slice A3 l.us.length q3, .slice A4 l.ps.length q4, .slice A5 l.ws.length q5], .int .i64 run] w (MosP (if wrsE l run = 0 then worN l run.toNat else 0) (if wrsE l run = 0 then worX l run.toNat else []) (if wrsE l run = 0 then worE l run.toNat else wrsE l run) w) := by
  have H := hide h
  have HS := hide hs
  obtain ⟨z, hz⟩ : ∃ z, wrsE l run = z := ⟨_, rfl⟩
  have HZ := hide hz
  have hu := hs.u
  clear h hs
  by_cases hz0 : z = 0
  · subst hz0
    rw [hz]
    have hok := havE_ok hz
    obtain ⟨hok, hb⟩ := hok
    obtain ⟨b1, b2⟩ := btw_iff.1 hb
    obtain ⟨k, rfl⟩ := Int.eq_ofNat_of_zero_le b1
    have hk : k < l.us.length := by omega
    rw [if_pos rfl, if_pos rfl, if_pos rfl, Int.toNat_natCast]
    have OK := hide hok
    clear hz hok hb b1 b2
    go_enter Try.func20, Try.ntmps20
    go_upto_region 1 with (fail)
    generalize hw0 : World.alloc _ _ = w0
    obtain ⟨hb0, hb1, hB0, hs0⟩ := alloc2 hw0
    have c0 := cellOf hb0 0; have c1 := cellOf hb0 1; have c2 := cellOf hb0 2; have c3 := cellOf hb0 3; have c4 := cellOf hb0 4; have c5 := cellOf hb0 5
    have d0 := cellOf hb1 0
    have hlb := box_lt hb0
    have hlr := box_lt hb1
    have hhv := have_worst (.pointer (some ⟨w.heap.size + 1, 0, none⟩)) (.pointer (some ⟨w.heap.size, 0, none⟩)) (btw (k : Int) 0 ((l.us.length : Int) - 1)) A0 A1 A2 A3 A4 A5 q0 q1 q2 q3 q4 q5 l w0 HS.out (H.out.up hB0) (fun _ W hW => worst1_any k A0 A1 A2 A3 A4 A5 q0 q1 q2 q3 q4 q5 l _ _ W hu (box_to hb1 hW) (LoBox.to hb0 hW))
    rw [show havE l (btw (k : Int) 0 ((l.us.length : Int) - 1)) = 0 from HZ.out] at hhv
    have HHV := hide hhv
    have HB0 := hide hB0
    have HL0 : Hid (LoBox w0 w.heap.size A0 A1 A2 A3 A4 A5 q0 q1 q2 q3 q4 q5 l) := hb0
    have HR0 := hide hb1
    clear hw0 hb0 hb1 hB0 hs0 hhv
    go_wp2_with (first | (go_at_call 82; refine HHV.out.mono ?_; rintro e w1 ⟨rfl, hB1⟩; have e0 := cellOf (HL0.out.to hB1) 0; have e1 := cellOf (HL0.out.to hB1) 1; have e2 := cellOf (HL0.out.to hB1) 2; have e3 := cellOf (HL0.out.to hB1) 3; have e4 := cellOf (HL0.out.to hB1) 4; have e5 := cellOf (HL0.out.to hB1) 5; have f0 := cellOf (box_to HR0.out hB1) 0; have lb1 := box_lt (HL0.out.to hB1); have lr1 := box_lt (box_to HR0.out hB1); have HB1 := hide (Below.to HB0.out hB1 (Nat.le_refl _)); clear hB1 c0 c1 c2 c3 c4 c5 d0 hlb hlr) | (go_at_call 84; refine (worst_any k A0 A1 A2 A3 A4 A5 q0 q1 q2 q3 q4 q5 l _ HS.out (H.out.up HB1.out) OK.out hk hN).mono ?_; rintro e w2 ⟨v2, rfl, hv2, hB2⟩; have HV2 := hide hv2; have HB2 := hide (Below.to HB1.out hB2 (Nat.le_refl _)); clear hB2 hv2))
    go_ret3
    exact ⟨v2, rfl, HV2.out, HB2.out⟩
  · rw [if_neg (by rw [hz]; exact hz0), if_neg (by rw [hz]; exact hz0), if_neg (by rw [hz]; exact hz0), hz]
    have hz1 : (z != 0) = true := by simpa using hz0
    clear hz hz0
    go_enter Try.func20, Try.ntmps20
    go_upto_region 1 with (fail)
    generalize hw0 : World.alloc _ _ = w0
    obtain ⟨hb0, hb1, hB0, hs0⟩ := alloc2 hw0
    have c0 := cellOf hb0 0; have c1 := cellOf hb0 1; have c2 := cellOf hb0 2; have c3 := cellOf hb0 3; have c4 := cellOf hb0 4; have c5 := cellOf hb0 5
    have hlb := box_lt hb0
    have hhv := have_worst (.pointer (some ⟨w.heap.size + 1, 0, none⟩)) (.pointer (some ⟨w.heap.size, 0, none⟩)) (btw run 0 ((l.us.length : Int) - 1)) A0 A1 A2 A3 A4 A5 q0 q1 q2 q3 q4 q5 l w0 HS.out (H.out.up hB0) (fun _ W hW => worst1_any run A0 A1 A2 A3 A4 A5 q0 q1 q2 q3 q4 q5 l _ _ W hu (box_to hb1 hW) (LoBox.to hb0 hW))
    rw [show havE l (btw run 0 ((l.us.length : Int) - 1)) = z from HZ.out] at hhv
    have HHV := hide hhv
    have HB0 := hide hB0
    clear hw0 hb0 hb1 hB0 hs0 hhv
    go_wp2_with (go_at_call 82; refine HHV.out.mono ?_; rintro e w1 ⟨rfl, hB1⟩; have HB1 := hide (Below.to HB0.out hB1 (Nat.le_refl _)); clear hB1)
    go_ret3
    exact ⟨_, rfl, Sl.nil _ _ _ _, HB1.out⟩
end Go.Proofs.Ytmabfnddedffoaa
/- The example of the laws: walk. -/
namespace Go.Proofs.Ytmabfnddedffoaa
open Go.RowKit
set_option linter.unusedVariables false
set_option linter.unusedSimpArgs false
def exL : Lo := ⟨⟨[⟨#[116, 111, 119]⟩, ⟨#[104, 101, 97, 116]⟩], []⟩, [⟨0, 0, 0⟩, ⟨100, 0, 0⟩, ⟨100, 50, 0⟩, ⟨200, 0, 0⟩], [⟨0, 1, 110, 5⟩, ⟨1, 2, 50, 3⟩, ⟨1, 3, 100, 3⟩],
  [⟨⟨#[97]⟩, 0, 2⟩, ⟨⟨#[98]⟩, 2, 2⟩, ⟨⟨#[99]⟩, 3, 2⟩], [⟨⟨#[120]⟩, 0, 0, 1, 0, 2, [0]⟩, ⟨⟨#[121]⟩, 0, 1, 2, 0, 2, [1]⟩, ⟨⟨#[122]⟩, 0, 0, 2, 1, 1, [1]⟩]⟩
theorem exL_n : worN exL 0 = 5 := by decide +kernel
theorem exL_x : worX exL 0 = [true, true] := by decide +kernel
theorem exL_e : worE exL 0 = 0 := by decide +kernel
def allocs (w : World) : List Obj → World
  | [] => w
  | o :: r => allocs (w.alloc o) r
theorem allocs_size (w : World) : ∀ os : List Obj, (allocs w os).heap.size = w.heap.size + os.length
  | [] => rfl
  | o :: r => by
    show (allocs (w.alloc o) r).heap.size = _
    rw [allocs_size (w.alloc o) r]
    simp
    omega
theorem allocs_below (w : World) (B : Nat) (hB : B ≤ w.heap.size) : ∀ os : List Obj, Below B w (allocs w os)
  | [] => Below.refl _ _
  | o :: r => ((Below.refl B w).alloc hB o).trans (allocs_below (w.alloc o) B (by simp; omega) r)
theorem allocs_get (w : World) : ∀ (os : List Obj) (i : Nat), i < os.length → (allocs w os).heap[w.heap.size + i]? = os[i]?
  | o :: r, 0, _ => by
    show (allocs (w.alloc o) r).heap[w.heap.size]? = some o
    exact ((allocs_below (w.alloc o) (w.heap.size + 1) (by simp) r).block _ (by omega)).trans (heap_alloc_new w o)
  | o :: r, i + 1, h => by
    have := allocs_get (w.alloc o) r i (by simpa using h)
    show (allocs (w.alloc o) r).heap[w.heap.size + (i + 1)]? = r[i]?
    rw [← this]
    congr 1
    simp
    omega
theorem alloc10 {w w0 : World} {o0 o1 o2 o3 o4 o5 o6 o7 o8 o9 : Obj} (h : (((((((((w.alloc o0).alloc o1).alloc o2).alloc o3).alloc o4).alloc o5).alloc o6).alloc o7).alloc o8).alloc o9 = w0) : w0.heap[w.heap.size]? = some o0 ∧ w0.heap[w.heap.size + 1]? = some o1 ∧ w0.heap[w.heap.size + 2]? = some o2 ∧ w0.heap[w.heap.size + 3]? = some o3 ∧ w0.heap[w.heap.size + 4]? = some o4 ∧ w0.heap[w.heap.size + 5]? = some o5 ∧ w0.heap[w.heap.size + 6]? = some o6 ∧ w0.heap[w.heap.size + 7]? = some o7 ∧ w0.heap[w.heap.size + 8]? = some o8 ∧ w0.heap[w.heap.size + 9]? = some o9 ∧ Below w.heap.size w w0 ∧ w0.heap.size = w.heap.size + 10 := by
  have hw : allocs w [o0, o1, o2, o3, o4, o5, o6, o7, o8, o9] = w0 := h
  subst hw
  exact ⟨allocs_get w _ 0 (by simp), allocs_get w _ 1 (by simp), allocs_get w _ 2 (by simp), allocs_get w _ 3 (by simp), allocs_get w _ 4 (by simp), allocs_get w _ 5 (by simp), allocs_get w _ 6 (by simp), allocs_get w _ 7 (by simp), allocs_get w _ 8 (by simp), allocs_get w _ 9 (by simp), allocs_below w _ (Nat.le_refl _) _, allocs_size w _⟩
theorem sl_boxes {w : World} {b B sz n t : Nat} {C : Array Value} {f : Nat → Nat → Value} (hb : w.heap[b]? = some (.cells C t (0, 0))) (hB : b < B) (h : ∀ i, i < n → ∀ j, j < sz → C[i * sz + j]? = some (f i j)) : Sl w B sz (.slice (some ⟨b, 0, none⟩) n n) n f :=
  ⟨_, b, 0, n, rfl, Nat.le_refl _, .inl ⟨rfl, hB⟩, fun i j hi hj => by
    rw [Nat.zero_add, cellOf hb]
    exact h i hi j hj⟩
set_option maxRecDepth 100000 in
set_option maxHeartbeats 2000000 in
theorem example_any (w : World) :
    Calls Try.prog 50 #[] w fun e w' => ∃ (A0 A1 A2 A3 A4 A5 : Option Addr) (q0 q1 q2 q3 q4 q5 : Nat), e = .returned (.agg #[.slice A0 exL.m.opts.length q0, .slice A1 exL.m.rules.length q1, .slice A2 exL.ss.length q2, .slice A3 exL.us.length q3, .slice A4 exL.ps.length q4, .slice A5 exL.ws.length q5]) ∧ LoA w' w'.heap.size A0 A1 A2 A3 A4 A5 q0 q1 q2 q3 q4 q5 exL ∧ Below w.heap.size w w' := by
  go_enter Try.func50, Try.ntmps50
  go_wp2_with fail
  generalize hw0 : World.alloc _ _ = w0
  obtain ⟨h0, h1, h2, h3, h4, h5, h6, h7, h8, h9, hB, hs⟩ := alloc10 hw0
  clear hw0
  have e0 := cellOf h0 0
  have e1 := cellOf h0 1
  have e2 := cellOf h0 2
  have e3 := cellOf h0 3
  have e4 := cellOf h0 4
  have e5 := cellOf h0 5
  have hl : LoA w0 w0.heap.size (some ⟨w.heap.size + 1, 0, none⟩) none (some ⟨w.heap.size + 3, 0, none⟩) (some ⟨w.heap.size + 4, 0, none⟩) (some ⟨w.heap.size + 5, 0, none⟩) (some ⟨w.heap.size + 9, 0, none⟩) 2 0 4 3 3 3 exL := by
    refine ⟨⟨names_box (l := exL.m.opts) h1 (by omega), fun _ => undef, Sl.nil _ _ _ _, fun i hi => absurd (show i < 0 from hi) (by omega)⟩, sl_boxes h3 (by omega) (fun i hi j hj => by
      have hi' : i < 4 := hi
      rcases (by omega : i = 0 ∨ i = 1 ∨ i = 2 ∨ i = 3) with rfl | rfl | rfl | rfl <;> (rcases (by omega : j = 0 ∨ j = 1 ∨ j = 2) with rfl | rfl | rfl) <;> rfl), sl_boxes h4 (by omega) (fun i hi j hj => by
      have hi' : i < 3 := hi
      rcases (by omega : i = 0 ∨ i = 1 ∨ i = 2) with rfl | rfl | rfl <;> (rcases (by omega : j = 0 ∨ j = 1 ∨ j = 2 ∨ j = 3) with rfl | rfl | rfl | rfl) <;> rfl), sl_boxes h5 (by omega) (fun i hi j hj => by
      have hi' : i < 3 := hi
      rcases (by omega : i = 0 ∨ i = 1 ∨ i = 2) with rfl | rfl | rfl <;> (rcases (by omega : j = 0 ∨ j = 1 ∨ j = 2) with rfl | rfl | rfl) <;> rfl), fun i => .slice (some ⟨w.heap.size + 6 + i, 0, none⟩) 1 1, sl_boxes h9 (by omega) ?_, ?_⟩
    · intro i hi j hj
      have hi3 : i < 3 := hi
      match i, hi3, j, hj with
      | 0, _, 0, _ => rfl
      | 0, _, 1, _ => rfl
      | 0, _, 2, _ => rfl
      | 0, _, 3, _ => rfl
      | 0, _, 4, _ => rfl
      | 0, _, 5, _ => rfl
      | 0, _, 6, _ => rfl
      | 1, _, 0, _ => rfl
      | 1, _, 1, _ => rfl
      | 1, _, 2, _ => rfl
      | 1, _, 3, _ => rfl
      | 1, _, 4, _ => rfl
      | 1, _, 5, _ => rfl
      | 1, _, 6, _ => rfl
      | 2, _, 0, _ => rfl
      | 2, _, 1, _ => rfl
      | 2, _, 2, _ => rfl
      | 2, _, 3, _ => rfl
      | 2, _, 4, _ => rfl
      | 2, _, 5, _ => rfl
      | 2, _, 6, _ => rfl
    · intro i hi
      have hi3 : i < 3 := hi
      match i, hi3 with
      | 0, _ => exact ints_box (l := [0]) h6 (by omega)
      | 1, _ => exact ints_box (l := [1]) h7 (by omega)
      | 2, _ => exact ints_box (l := [1]) h8 (by omega)
  have HL := hide hl
  have HB := hide hB
  clear h0 h1 h2 h3 h4 h5 h6 h7 h8 h9 hs hl hB
  refine bodyPost_ret (v := .agg #[.slice (some ⟨w.heap.size + 1, 0, none⟩) 2 2, .slice none 0 0, .slice (some ⟨w.heap.size + 3, 0, none⟩) 4 4, .slice (some ⟨w.heap.size + 4, 0, none⟩) 3 3, .slice (some ⟨w.heap.size + 5, 0, none⟩) 3 3, .slice (some ⟨w.heap.size + 9, 0, none⟩) 3 3]) ?_ rfl ⟨_, _, _, _, _, _, _, _, _, _, _, _, rfl, HL.out, HB.out⟩
  rw [results_cell1 rfl]
  go_simp
end Go.Proofs.Ytmabfnddedffoaa
/- The look at the example: walk. -/
namespace Go.Proofs.Ytmabfnddedffoaa
open Go.RowKit
set_option linter.unusedVariables false
set_option linter.unusedSimpArgs false
theorem exL_wrs : wrsE exL 0 = 0 := by decide +kernel
theorem exL_sized : SizedL exL := by
  have hm : ∀ n : Nat, n ≤ 100 → n ≤ maxLen := fun n hn => by unfold maxLen; omega
  refine ⟨⟨hm _ (by decide), fun x hx => hm _ ?_, hm _ (by decide), fun f hf => ?_⟩, hm _ (by decide), hm _ (by decide), hm _ (by decide), hm _ (by decide), fun x hx => hm _ ?_, fun x hx => ⟨hm _ ?_, hm _ ?_⟩⟩
  · have : x = ⟨#[116, 111, 119]⟩ ∨ x = ⟨#[104, 101, 97, 116]⟩ := by simpa [exL] using hx
    rcases this with rfl | rfl <;> decide
  · simp [exL] at hf
  · simp [exL] at hx
    rcases hx with rfl | rfl | rfl <;> decide
  · simp [exL] at hx
    rcases hx with rfl | rfl | rfl <;> decide
  · simp [exL] at hx
    rcases hx with rfl | rfl | rfl <;> decide
set_option maxRecDepth 100000 in
set_option maxHeartbeats 2000000 in
theorem works_loom (w : World) :
    Calls Try.prog 15 #[] w fun e w' => e = .returned (.bool true) ∧ Below w.heap.size w w' := by
  go_enter Try.func15, Try.ntmps15
  go_upto_region 2 with (first
    | (go_at_call 20; refine (Worst_any 0 _ _ _ _ _ _ _ _ _ _ _ _ exL w1 exL_sized HL1.out (by decide)).mono ?_; rw [exL_wrs, if_pos rfl, if_pos rfl, if_pos rfl, show (0 : Int).toNat = 0 from rfl, exL_n, exL_x, exL_e]; rintro e w2 ⟨v2, rfl, hv2, hB2⟩; have HV2 := hide hv2; have HB2 := hide (Below.to HB1.out hB2 (Nat.le_refl _)); clear hB2 hv2)
    | (go_at_call 50; refine (example_any w).mono ?_; rintro e w1 ⟨A0, A1, A2, A3, A4, A5, q0, q1, q2, q3, q4, q5, rfl, hl1, hB1⟩; have HL1 := hide hl1; have HB1 := hide hB1; clear hl1 hB1))
  obtain ⟨Av, qv, hv⟩ := Sl.form HV2.out
  subst hv
  obtain ⟨_, hq, b, off, rfl, hb, h1⟩ := sl_at HV2.out (k := 0) (by decide)
  obtain ⟨_, _, b', off', he, _, h2⟩ := sl_at HV2.out (k := 1) (by decide)
  injection he with he
  injection he with he1 he2
  subst he1 he2
  have c0 := h1 0 (by decide)
  have c1 := h2 0 (by decide)
  simp only [Nat.zero_mul, Nat.one_mul, Nat.zero_add, Nat.add_zero] at c0 c1
  have HB2' := HB2.out
  have hq2 : 2 ≤ qv := hq
  clear h1 h2 hq
  go_wp2_with fail
  go_ret
  exact ⟨rfl, HB2'⟩
end Go.Proofs.Ytmabfnddedffoaa

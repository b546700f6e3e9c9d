/- Part 27 of this claim's texts: walks and plain laws. -/
import Derived.Test.YtehadoecnmfeoaaGreatRows
import Derived.Test.YtehadoecnmfeoaaGreatGBT24
import Derived.Test.YtehadoecnmfeoaaGreatGBT26
import Derived.Laws.Bits64b
import Derived.Laws.CopyOwn
import Derived.Deep.DeepMust
import Derived.Deep.RegionHeld3
import Derived.Deep.DrawnRows
import Derived.Test.YtehadoecnmfeoaaGreatGBT3
import Derived.Laws.OwnMore
/- Repeat of one number: walk. -/
namespace Go.Proofs.YtehadoecnmfeoaaGreat
open Go.RowKit
set_option linter.unusedVariables false
set_option linter.unusedSimpArgs false
set_option maxRecDepth 100000 in
set_option maxHeartbeats 2000000 in
theorem mul64_one (n : Nat) (hn : n < 4294967296) (w : World) : Calls Tryz.prog 240 #[.int .u64 1, .int .u64 n] w fun e w' => e = .returned (.tuple #[.int .u64 0, .int .u64 n]) ∧ w = w' := by
  have e1 : bits .and .u64 (1 : Int) 4294967295 = 1 := by
    have h := bits_and_u64_nat 1 4294967295 (by omega) (by omega)
    exact h
  have e2 : bits .and .u64 (n : Int) 4294967295 = (n : Int) := by
    have h := bits_and_u64_nat n 4294967295 (by omega) (by omega)
    rw [show n &&& 4294967295 = n % 4294967296 from Nat.and_two_pow_sub_one_eq_mod n 32, Nat.mod_eq_of_lt hn] at h
    exact h
  have e3 : (n : Int) / 4294967296 = 0 := by omega
  have e4 : IntKind.u64.wrap (n : Int) = (n : Int) := by rw [IntKind.wrap_u64]; omega
  have e5 : bits .and .u64 (0 : Int) 4294967295 = 0 := by
    have h := bits_and_u64_nat 0 4294967295 (by omega) (by omega)
    exact h
  go_enter Tryz.func240, Tryz.ntmps240
  go_wp2
  go_ret2
  exact ⟨rfl, rfl⟩
set_option maxRecDepth 100000 in
set_option maxHeartbeats 2000000 in
theorem mul_one6 (n : Nat) (hn : n < 4294967296) (w : World) : Calls Tryz.prog 195 #[.int .u64 1, .int .u64 n] w fun e w' => e = .returned (.tuple #[.int .u64 0, .int .u64 n]) ∧ w = w' := by
  go_enter Tryz.func195, Tryz.ntmps195
  go_wp2_with (go_at_call 240; refine (mul64_one n hn _).mono ?_; rintro e w1 ⟨rfl, rfl⟩)
  go_ret2
  exact ⟨rfl, rfl⟩
/-- c copies of a number, then noughts. -/
def rpC (X : Int) (n c : Nat) : List Value := List.replicate c (.int .i64 X) ++ List.replicate (n - c) (.int .i64 0)
theorem rpC_len (X : Int) {n c : Nat} (h : c ≤ n) : (rpC X n c).length = n := by simp [rpC]; omega
theorem rpC_at (X : Int) {n c j : Nat} (h : j < c) : (rpC X n c)[j]? = some (.int .i64 X) := by
  unfold rpC
  rw [List.getElem?_append_left (by simpa using h), List.getElem?_replicate, if_pos h]
theorem rpC_splice (X : Int) {n c k : Nat} (hc : c ≤ n) (hk : c + k ≤ n) : splice (rpC X n c) c (List.replicate k (.int .i64 X)) = rpC X n (c + k) := by
  unfold splice rpC
  rw [List.take_append_of_le_length (by simp), List.take_of_length_le (by simp), List.length_replicate, List.drop_append, List.drop_eq_nil_of_le (by simp), List.nil_append, List.drop_replicate, ← List.append_assoc, List.replicate_append_replicate]
  congr 2
  simp
  omega
set_option maxRecDepth 100000 in
set_option maxHeartbeats 4000000 in
theorem Repeat_any (X : Int) (n : Nat) (hn1 : 1 ≤ n) (hn2 : n ≤ 1000) (b : Nat) (w : World) (hb : w.heap[b]? = some (.cells #[.int .i64 X] 3 (0, 0))) :
    Calls Tryz.prog 124 #[.slice (some ⟨b, 0, none⟩) 1 1, .int .i64 n] w fun e w' => e = .returned (.slice (some ⟨w.heap.size, 0, none⟩) n n) ∧ w'.ownsRow w.heap.size 3 1 (.slice (some ⟨w.heap.size, 0, none⟩) n n) n (List.replicate n (.int .i64 X)) ∧ Below w.heap.size w w' := by
  obtain ⟨i0, hi0, iz0, iz1, iz2⟩ := info_parts infoInt
  have hsz : (Tryz.prog.info? 3).map (·.size) = some 1 := by rw [hi0]; simp [iz1]
  have hmk : ∀ W : World, (Instr.makeSlice 45 (.int .i64 n) (.int .i64 n)).run Tryz.prog W = .ok (.slice (some ⟨W.heap.size, 0, none⟩) n n) (W.alloc (.cells (madeCells #[.int .i64 0] (n * 1)) 3)) := fun W => by
    have h1 := run_make (P := Tryz.prog) W 45 3 i0 (.int .i64 0) Tryz.underlying45 hi0 iz0 .i64 .i64 n n (by omega) (Int.le_refl _) (by rw [iz2]; omega) (by omega)
    rw [iz1] at h1
    simpa [Value.cells] using h1
  have HB := hide hb
  have u1 : IntKind.u64.wrap (n : Int) = (n : Int) := by rw [IntKind.wrap_u64]; omega
  have g1 : ¬ (n : Int) < 0 := by omega
  have g2 : ¬ (9223372036854775807 : Int) < (n : Int) := by omega
  have hmn : n < 4294967296 := by omega
  clear hb
  go_enter Tryz.func124, Tryz.ntmps124
  go_upto_region 7 with (go_at_call 195; refine (mul_one6 n hmn _).mono ?_; rintro e w1 ⟨rfl, rfl⟩)
  generalize hw1 : World.alloc _ _ = w1
  obtain ⟨hb1, hB1, hs1⟩ := alloc1 hw1
  have hg0 : w1.heap[w.heap.size]? = some (.cells (rpC X n 0).toArray 3 (0, 0)) := by
    rw [hb1]
    unfold rpC
    rw [show (madeCells #[Value.int .i64 0] n) = ((List.replicate n (0 : Int)).map (Value.int .i64)).toArray from made_ints n, List.map_replicate]
    rfl
  have HG0 := hide hg0
  have HB1 := hide hB1
  have HX1 := hide (heap_below HB.out hB1)
  clear hw1 hb1 hB1 hs1 hg0 hmk
  have hcp := run_copy_row (P := Tryz.prog) w1 45 45 3 3 w.heap.size 0 n n ⟨b, 0, none⟩ 1 1 (rpC X n 0).toArray 3 [.int .i64 X] Tryz.underlying45 hsz HG0.out (show 1 = min 1 n by omega) (World.news_of_block HX1.out) (by simp [rpC_len X (Nat.zero_le n)]; omega) (by simp [Value.oneCell'])
  rw [show (rpC X n 0).toArray.toList.take 0 ++ [Value.int .i64 X] ++ (rpC X n 0).toArray.toList.drop (0 + [Value.int .i64 X].length) = rpC X n (0 + 1) from by
    rw [← rpC_splice X (Nat.zero_le n) (by omega)]
    simp [splice]] at hcp
  go_upto_region 8 with (fail)
  generalize hw2 : World.setRow _ _ _ = w2
  have hg2 : w2.heap[w.heap.size]? = some (.cells (rpC X n (0 + 1)).toArray 3 (0, 0)) := by rw [← hw2]; exact setRow_heap w1 _ _ _ _ _ HG0.out
  have hB2 : Below w.heap.size w w2 := by rw [← hw2]; exact below_setRow HB1.out (Nat.le_refl _) _
  have HG2 := hide hg2
  have HB2 := hide hB2
  clear hw2 hg2 hB2 hcp
  go_loopw [8] (fun i wr => ∃ c : Nat, i = .int .i64 c ∧ 1 ≤ c ∧ c ≤ n ∧ Hid (wr.heap[w.heap.size]? = some (.cells (rpC X n c).toArray 3 (0, 0))) ∧ Hid (Below w.heap.size w wr)) (fun i _ => n - (intOf i).toNat)
  case atStart => exact ⟨1, rfl, Nat.le_refl _, hn1, HG2.out, HB2.out⟩
  case round =>
    obtain ⟨c, rfl, hc1, hcn, HG, HBr⟩ := hrel
    by_cases hlt : c < n
    · have i1 : (c : Int) < (n : Int) := by omega
      have i2 : (0 : Int) ≤ (c : Int) := by omega
      have i3 : (c : Int) ≤ (n : Int) := by omega
      have lg := box_lt HG.out
      have hnc : ¬ n = c := by omega
      obtain ⟨m, hm⟩ : ∃ m, Nat.min c (n - c) = m := ⟨_, rfl⟩
      have hm1 : 1 ≤ m := by rw [← hm]; show 1 ≤ min c (n - c); omega
      have hm2 : c + m ≤ n := by rw [← hm]; show c + min c (n - c) ≤ n; omega
      have hm3 : m ≤ c := by rw [← hm]; show min c (n - c) ≤ c; omega
      have HM := hide hm
      have wr1 : IntKind.i64.wrap ((c : Int) + (m : Int)) = (c : Int) + (m : Int) := IntWalk.i64_in _ (by omega)
      clear hm
      have hsrc : ∀ j v, (List.replicate (m) (Value.int .i64 X))[j]? = some v → wr.cell? ((⟨w.heap.size, 0, none⟩ : Addr).add j) = some v := fun j v hj => by
        rw [List.getElem?_replicate] at hj
        split at hj
        · injection hj with hj
          subst hj
          exact World.news_of_block HG.out j _ (rpC_at X (by omega))
        · cases hj
      have HSRC := hide hsrc
      clear hsrc
      go_upto_region 9 with (fail)
      have hBrr := HBr.out
      refine wp_region_held_drew (S := (fun w' => Below w.heap.size w w')) (by kernel_rfl) ?_ (fun hHeld => ?_)
      · try dsimp only
        exact (by repeat (first | exact Below.refl _ _ | assumption | refine Below.drew ?_ | refine Below.drewN ?_ _ | refine Below.allocT ?_ (Nat.le_refl _) _ | refine Below.setCell ?_ (by simp <;> omega) _ | refine Below.to ?_ (by assumption) (Nat.le_refl _)))
      refine zT 0 rfl ?_
      refine zT 1 rfl ?_
      refine zT 2 rfl ?_
      refine zT 3 rfl ?_
      refine zT 4 rfl ?_
      refine zT 5 rfl ?_
      refine zT 6 rfl ?_
      refine wpAnyH_ready (rs := [7]) (by kernel_rfl) (by simp) ?_
      refine AllReadyH.cons rfl (fun K hK => ?_) AllReadyH.nil
      (refine step_copy_splice (by rfl) (.tmp 41) (.tmp 44) 45 45 (by rfl) 3 Tryz.underlying45 hsz (some ⟨w.heap.size, c, none⟩) (some ⟨w.heap.size, 0, none⟩) (n - c) (n - c) c n (by rfl) (by rfl) w.heap.size c (rpC X n c) 3 HG.out (List.replicate (m) (.int .i64 X)) (by rw [List.length_replicate]; exact HM.out.symm) (fun _ => ⟨rfl, _, rfl, HSRC.out⟩) (by rw [rpC_len X hcn, List.length_replicate]; omega) (by intro v hv; rw [List.mem_replicate] at hv; rw [hv.2]; rfl) w.heap.size w (Below.drew hBrr) (Nat.le_refl _) ?_; intro w4 hg4 hB4; have HG4 := hide (show w4.heap[w.heap.size]? = some (.cells (rpC X n (c + m)).toArray 3 (0, 0)) from by rw [← rpC_splice X hcn (by omega)]; exact hg4.out); clear hg4)
      (try dsimp only)
      refine hK.out _ _ ?_ (fun hNext => ?_)
      · try dsimp only
        exact (by repeat (first | exact Below.refl _ _ | assumption | refine Below.drew ?_ | refine Below.drewN ?_ _ | refine Below.allocT ?_ (Nat.le_refl _) _ | refine Below.setCell ?_ (by simp <;> omega) _ | refine Below.to ?_ (by assumption) (Nat.le_refl _)))
      clear hK K hHeld
      have hHeld := hNext
      clear hNext
      (try dsimp only at hHeld)
      try simp only [zX]
      refine zT 8 rfl ?_
      refine zT 9 rfl ?_
      refine wpAnyH_done (by kernel_rfl) ?_ _
      clear hHeld hBrr
      have HB4 := hide hB4
      clear hB4 lg
      go_wp2_with fail
      go_roundw
      case rel => exact ⟨c + m, by go_num, by omega, by omega, HG4.out, HB4.out⟩
      case measure => simp [intOf]; omega
    · have hce : c = n := by omega
      have i1 : ¬ (c : Int) < (n : Int) := by omega
      go_wp2_with fail
      go_ret
      refine ⟨rfl, ?_, HBr.out⟩
      have h1 := HG.out
      rw [hce] at h1
      refine ⟨by simp, .inr ⟨_, n, _, rfl, Nat.le_refl _, h1, Nat.le_refl _, by unfold maxLen; omega, by simp [rpC_len], ?_⟩⟩
      simp [rpC]
theorem Repeat_g (X : Int) (n : Nat) (hn1 : 1 ≤ n) (hn2 : n ≤ 1000) (b : Nat) (w : World) (hb : w.heap[b]? = some (.cells #[.int .i64 X] 3 (0, 0))) :
    Calls Tryz.prog 124 #[.slice (some ⟨b, 0, none⟩) 1 1, .int .i64 n] w fun e w' => ∃ g, e = .returned (.slice (some ⟨g, 0, none⟩) n n) ∧ w.heap.size ≤ g ∧ w'.ownsRow w.heap.size 3 1 (.slice (some ⟨g, 0, none⟩) n n) n (List.replicate n (.int .i64 X)) ∧ Below w.heap.size w w' :=
  (Repeat_any X n hn1 hn2 b w hb).mono fun e w' => fun ⟨h1, h2, h3⟩ => ⟨_, h1, Nat.le_refl _, h2, h3⟩
end Go.Proofs.YtehadoecnmfeoaaGreat
/- The first variant that lacks a wire: walk. -/
namespace Go.Proofs.YtehadoecnmfeoaaGreat
open Go.RowKit
set_option linter.unusedVariables false
set_option linter.unusedSimpArgs false
/-- The answer of a look for a defect. -/
def LokP (o : Option (List Bool)) (w : World) (e : Ending) (w' : World) : Prop := ∃ v, e = .returned v ∧ OptV w' w'.heap.size v o ∧ Below w.heap.size w w'
theorem forms_reads {w : World} {B n q : Nat} {A : Option Addr} {L : List (List Int)} (h : Forms w B (.slice A n q) L) : ∃ vs : List Value, Reads w B 1 A L.length vs ∧ vs.length = L.length ∧ (∀ u ∈ vs, u.oneCell' = true) ∧ ∀ i, i < L.length → Ints w B (vs.getD i undef) (L.getD i []) := by
  obtain ⟨fv, hs, hf⟩ := h
  have hform := Sl.form hs
  obtain ⟨A', q', he⟩ := hform
  injection he with e1 e2 e3
  subst e1 e2 e3
  have hr := Sl.reads hs (by omega)
  have hat : ∀ i, i < L.length → (flat L.length 1 (fun i _ => fv i))[i]? = some (fv i) := fun i hi => by
    have h1 := flat_get (n := L.length) (sz := 1) (f := fun i (_ : Nat) => fv i) (i := i) (j := 0) hi (by omega)
    rw [Nat.mul_one, Nat.add_zero] at h1
    exact h1
  refine ⟨_, hr, by rw [flat_length, Nat.mul_one], fun u hu => ?_, fun i hi => ?_⟩
  · obtain ⟨m, hm⟩ := List.mem_iff_getElem?.1 hu
    have hml : m < L.length := by
      rcases Nat.lt_or_ge m L.length with h1 | h1
      · exact h1
      · rw [List.getElem?_eq_none (by rw [flat_length]; omega)] at hm
        cases hm
    rw [hat m hml] at hm
    injection hm with hm
    obtain ⟨Ai, qi, ei⟩ := Sl.form (hf m hml)
    rw [← hm, ei]
    rfl
  · rw [List.getD_eq_getElem?_getD, hat i hi]
    exact hf i hi
theorem lackW_set (fs : List (List Int)) : (List.replicate (fs.length + 1) (Value.int .i64 (-1))).set 0 (.int .i64 ((fs.length + 1 : Nat) : Int)) = (lackW fs).map (Value.int .i64) := by
  unfold lackW
  rw [List.replicate_succ, List.set_cons_zero, List.map_cons, List.map_replicate]
theorem lackW_len (fs : List (List Int)) : (lackW fs).length = fs.length + 1 := by simp [lackW]
theorem lackW_bd {fs : List (List Int)} (h : fs.length ≤ 1000) : ∀ x ∈ lackW fs, -1000000 ≤ x ∧ x ≤ 1000000 := by
  intro x hx
  unfold lackW at hx
  rcases List.mem_cons.1 hx with h1 | h1
  · rw [h1]; omega
  · rw [List.mem_replicate] at h1
    rw [h1.2]; omega
theorem errF_all {m : Mo} {L : List (List Int)} (h : m.err = 0) (hv : ∀ f ∈ L, validF m.opts.length f = true) : m.errF L = 0 := by
  unfold Mo.errF
  rw [if_neg (by simp [h]), if_neg (by rw [List.all_eq_true.2 hv]; simp)]
set_option maxRecDepth 100000 in
set_option maxHeartbeats 4000000 in
theorem lacks_any (k : Nat) (fs : List (List Int)) (Aw : Option Addr) (qw : Nat) (A0 A1 A2 A3 A4 A5 : Option Addr) (q0 q1 q2 q3 q4 q5 : Nat) (l : Lo) (w : World) (hs : SizedL l) (h : LoA w w.heap.size A0 A1 A2 A3 A4 A5 q0 q1 q2 q3 q4 q5 l) (ok : LoOk l) (hk : k < l.ws.length) (hf : Forms w w.heap.size (.slice Aw fs.length qw) fs) (h60 : fs.length ≤ 60) (hv : ∀ f ∈ fs, validF l.m.opts.length f = true) (hN : l.m.opts.length ≤ 12) (hne : allM l.m ≠ []) :
    Calls Tryz.prog 56 #[.agg #[.slice A0 l.m.opts.length q0, .slice A1 l.m.rules.length q1, .slice A2 l.ss.length q2, .slice A3 l.us.length q3, .slice A4 l.ps.length q4, .slice A5 l.ws.length q5], .int .i64 k, .slice Aw fs.length qw] w (LokP (frstV l.m (l.ws.getD k Wi.o).form fs 1) w) := by
  obtain ⟨i1, hi1, jz0, jz1, jz2⟩ := info_parts infoForm
  obtain ⟨bw, offw, x, Af, qf, HX, hA, hbw, hq5, HFO, e0, e1, e2, e3, e4, e5, e6⟩ := h.wi hk
  subst hA
  rw [HX.out]
  have hxv : validF l.m.opts.length x.form = true := by
    have h1 := (LoOk.wi ok hk).2
    rw [HX.out] at h1
    exact h1
  have hxl : x.form.length ≤ maxLen := (hs.wn x (by rw [← HX.out]; exact getD_mem7 hk)).2
  obtain ⟨res, hres⟩ : ∃ r, frstV l.m x.form fs 1 = r := ⟨_, rfl⟩
  rw [hres]
  have HRES := hide hres
  have H := hide h
  have HS := hide hs
  have HF := hide hf
  have HV := hide hv
  have HXV := hide hxv
  have OK := hide ok
  have HNE := hide hne
  have ii : (k : Int) < (l.ws.length : Int) := by omega
  have ik0 : (0 : Int) ≤ (k : Int) := by omega
  have iq : (l.ws.length : Int) ≤ (q5 : Int) := by omega
  clear h hs hf hv hxv ok hne hres e0 e1 e2 e3 e4 e5 hq5
  go_enter Tryz.func56, Tryz.ntmps56
  go_upto_region 1 with (fail)
  generalize hw0 : World.alloc _ _ = w0
  obtain ⟨hb0, hB0, hs0⟩ := alloc1 hw0
  have HL0 : Hid (LoBox w0 w.heap.size A0 A1 A2 A3 A4 (some ⟨bw, offw, none⟩) q0 q1 q2 q3 q4 q5 l) := hb0
  have HB0 := hide hB0
  have HF0 := hide (HF.out.up hB0)
  have HFO0 := hide (HFO.out.up hB0)
  have g6 := (hB0.cell (p := ⟨bw, offw + k * 7 + 6, none⟩) hbw).trans e6
  have lbw : bw < w0.heap.size := by omega
  have c0 := cellOf hb0 0; have c1 := cellOf hb0 1; have c2 := cellOf hb0 2; have c3 := cellOf hb0 3; have c4 := cellOf hb0 4; have c5 := cellOf hb0 5
  have hlb := box_lt hb0
  obtain ⟨vs, hrd, hvl, hv1, hvi⟩ := forms_reads HF0.out
  have HRD := hide hrd
  have HV1 := hide hv1
  have HVI := hide hvi
  have HVL := hide hvl
  obtain ⟨n, hn⟩ : ∃ n, 1 + fs.length = n := ⟨_, rfl⟩
  clear hw0 hb0 hB0 hs0 hrd hvl hv1 hvi e6
  go_upto_region 2 with (at_builtin; go_must (refine wpList_append_any _ rfl (.tmp 18) (.tmp 19) _ rfl w0.heap.size 46 i1 _ 1 24 Tryz.underlying23 hi1 jz0 jz1 jz2 rfl (by decide) _ 1 [.slice Af x.form.length qf] rfl (World.ownsRow_lit w0 #[.slice Af x.form.length qf] 1 (Nat.le_refl _) (by unfold maxLen; omega) rfl) w0.heap.size Aw fs.length qw vs rfl (HRD.out.alloc (Nat.le_refl _) _) HV1.out (by unfold maxLen; omega) (by omega) (by simp) ?_); intro v1 w1 hown1 hg1 _; rw [hn] at hown1; obtain ⟨Ao, qo, hv1⟩ := owns_form hown1; subst hv1; have HO1 := hide hown1; have HB1 := hide (Below.grown (Below.allocT (Below.refl w0.heap.size w0) (Nat.le_refl _) _) hg1 (by simp) (fun j hj => by injection hj with hj; exact Nat.le_of_eq hj)); clear hown1 hg1 g6 lbw c0 c1 c2 c3 c4 c5 hlb)
  have hwt : WthS w0 w1 (.slice Ao n qo) (x.form :: fs) ([.slice Af x.form.length qf] ++ vs) := by
    have hL : (x.form :: fs).length = n := by rw [List.length_cons, ← hn, Nat.add_comm]
    refine ⟨HB1.out, by simp [HVL.out], by rw [hL]; exact HO1.out, fun i hi => ?_⟩
    cases i with
    | zero => exact HFO0.out
    | succ i =>
      have h1 := HVI.out i (by simpa using hi)
      simpa [List.getD_eq_getElem?_getD] using h1
  have HWT := hide hwt
  have hn1 : 1 ≤ n := by omega
  have hn2 : n ≤ 1000 := by omega
  have HN := hide hn
  clear hwt hn
  go_upto_region 3 with (go_at_call 124; refine (Repeat_g (-1) n hn1 hn2 w1.heap.size _ (heap_alloc_new _ _)).mono ?_; rintro e w2 ⟨g, rfl, hg1, ho2, hB2⟩; have HO2 := hide ho2; have HB2 : Hid (Below w1.heap.size w1 w2) := Below.to (Below.allocT (Below.refl _ _) (Nat.le_refl _) _) hB2 (Nat.le_refl _); have HG1 : Hid (w1.heap.size ≤ g) := (by show _ ≤ _; simp at hg1; omega); clear ho2 hB2 hg1)
  obtain ⟨_, hgq, hgB, hgn, cur, hgh⟩ := own_at7 HO2.out (by omega)
  injection hgq with hgq
  injection hgq with hgq
  subst hgq
  have c0 := HO2.out.cellAt 0 (by omega)
  rw [List.getElem?_replicate, if_pos (by omega)] at c0
  have f0 := HO2.out.frozenAt 0
  have lg := box_lt hgh
  have in0 : (0 : Int) < (n : Int) := by omega
  obtain ⟨ho3, _⟩ := HO2.out.stored 0 (.int .i64 (n : Int))
  have hB3 : Below w1.heap.size w1 (w2.setCell ⟨g, 0, none⟩ (.int .i64 (n : Int))) := Below.setCell HB2.out HG1.out _
  clear hgh hgB hgn
  go_upto_region 4 with (fail)
  generalize hw3 : World.setCell _ _ _ = w3 at ho3 hB3 ⊢
  have hlw : (List.replicate n (Value.int .i64 (-1))).set 0 (.int .i64 (n : Int)) = (lackW fs).map (Value.int .i64) := by
    rw [← HN.out, Nat.add_comm 1 fs.length]
    exact lackW_set fs
  rw [hlw] at ho3
  have hll : (lackW fs).length = n := by rw [lackW_len, ← HN.out, Nat.add_comm]
  have hiw : Ints w3 w3.heap.size (.slice (some ⟨g, 0, none⟩) n n) (lackW fs) := by
    have h1 := ints_own7 (l := lackW fs) (v := .slice (some ⟨g, 0, none⟩) n n) (w := w3) (by rw [hll]; exact ho3)
    exact h1
  have HIW := hide hiw
  have HB3 := hide hB3
  have HW03 := hide (Below.to HB0.out (Below.to HB1.out hB3 (Nat.le_refl _)) (Nat.le_refl _))
  have HFM := hide (HWT.out.to hB3).forms
  have HL3 := hide ((HL0.out.to HB1.out).to hB3)
  have d0 := cellOf HL3.out 0; have d1 := cellOf HL3.out 1; have d2 := cellOf HL3.out 2; have d3 := cellOf HL3.out 3; have d4 := cellOf HL3.out 4; have d5 := cellOf HL3.out 5
  have ld := box_lt HL3.out
  have hef : l.m.errF (x.form :: fs) = 0 := errF_all OK.out.m (fun f hf => by
    rcases List.mem_cons.1 hf with h1 | h1
    · rw [h1]; exact HXV.out
    · exact HV.out f h1)
  have hsz : Sized (x.form :: fs) := ⟨by unfold maxLen; simp; omega, fun f hf => by
    rcases List.mem_cons.1 hf with h1 | h1
    · rw [h1]; exact hxl
    · have := (validF_pos (HV.out f h1)).2
      unfold maxLen; omega⟩
  have hmo := Most_n l.m (x.form :: fs) (lackW fs) _ _ _ _ w3 HS.out.m hsz (H.out.up HW03.out).m HFM.out HIW.out hef hN (by simp; omega) (by rw [lackW_len, List.length_cons]) (lackW_bd (by omega)) (by rw [satM_true]; exact HNE.out)
  unfold MostN at hmo
  obtain ⟨bst, hbst⟩ : ∃ z, bestF l.m (x.form :: fs) (lackW fs) = z := ⟨_, rfl⟩
  have HBS := hide hbst
  rw [hbst] at hmo
  have HMO := hide hmo
  clear hw3 ho3 hB3 hlw hll hiw hef hsz hmo hbst c0 f0 lg
  by_cases hlt : bst < (n : Int)
  · go_wp2_with (go_at_call 125; refine HMO.out.mono ?_; rintro e w4 ⟨v4, y, rfl, hfi, hyl, hop, hB4⟩; obtain ⟨Av, nv, qv, hv4, _⟩ := hop.form; subst hv4; have HFI := hide hfi; have HOP := hide hop; have HB4 := hide (Below.to HW03.out hB4 (Nat.le_refl _)); clear hfi hyl hop hB4 d0 d1 d2 d3 d4 d5 ld)
    go_ret
    have hla := (lack_law (m := l.m) (f := x.form) (fs := fs) (by omega) (by rw [HBS.out]; exact HFI.out)).2 (by rw [HBS.out]; have := HN.out; omega)
    rw [HRES.out] at hla
    subst hla
    exact ⟨_, rfl, rfl, HB4.out⟩
  · go_wp2_with (go_at_call 125; refine HMO.out.mono ?_; rintro e w4 ⟨v4, y, rfl, hfi, hyl, hop, hB4⟩; obtain ⟨Av, nv, qv, hv4, _⟩ := hop.form; subst hv4; have HFI := hide hfi; have HOP := hide hop; have HB4 := hide (Below.to HW03.out hB4 (Nat.le_refl _)); clear hfi hyl hop hB4 d0 d1 d2 d3 d4 d5 ld)
    go_ret
    have hla := (lack_law (m := l.m) (f := x.form) (fs := fs) (by omega) (by rw [HBS.out]; exact HFI.out)).1 (by rw [HBS.out]; have := HN.out; omega)
    rw [HRES.out] at hla
    subst hla
    exact ⟨_, rfl, HOP.out, HB4.out⟩
end Go.Proofs.YtehadoecnmfeoaaGreat
/- The first variant that has a wire though it should not: walk. -/
namespace Go.Proofs.YtehadoecnmfeoaaGreat
open Go.RowKit
set_option linter.unusedVariables false
set_option linter.unusedSimpArgs false
theorem imp_head (m : Mo) (f g : List Int) : (impL m f g).head? = (allM m).find? fun x => evF1 (vf x) f && !evF1 (vf x) g := by
  unfold impL
  rw [satM_all, head_find]
theorem mee_head (m : Mo) (L : List (List Int)) : (meeL m L).head? = (allM m).find? fun x => allF (vf x) L := by
  unfold meeL
  rw [satM_all, head_find]
theorem allM_len6 {m : Mo} {x : List Bool} (h : x ∈ allM m) : x.length = m.opts.length := by
  have h1 := (List.mem_filter.1 h).1
  have h2 := exts_len _ _ _ h1
  simpa using h2
theorem find_len {m : Mo} {p : List Bool → Bool} {x : List Bool} (h : (allM m).find? p = some x) : x.length = m.opts.length := allM_len6 (List.mem_of_find?_eq_some h)
theorem empty_head {α : Type} (l : List α) : l.isEmpty = l.head?.isNone := by cases l <;> rfl
/-- One formula of a list. -/
theorem Forms.at7 {w : World} {B n q : Nat} {A : Option Addr} {L : List (List Int)} (h : Forms w B (.slice A n q) L) {k : Nat} (hk : k < L.length) : ∃ b off f Af qf, Hid (L.getD k [] = f) ∧ A = some ⟨b, off, none⟩ ∧ b < B ∧ L.length ≤ q ∧ Hid (Ints w B (.slice Af f.length qf) f) ∧ w.cell? ⟨b, off + k, none⟩ = some (.slice Af f.length qf) := by
  obtain ⟨fv, hs, hf⟩ := h
  obtain ⟨h1, h2, b, off, h3, h4, h5⟩ := sl_at hs hk
  have hx := hf k hk
  obtain ⟨Af, qf, e⟩ := Sl.form hx
  have c0 := h5 0 (by omega)
  rw [Nat.mul_one, Nat.add_zero, e] at c0
  rw [e] at hx
  exact ⟨b, off, _, Af, qf, rfl, h3, h4, by omega, hx, c0⟩
theorem LoBox.grown {w w' : World} {lb b t : Nat} {A0 A1 A2 A3 A4 A5 : Option Addr} {q0 q1 q2 q3 q4 q5 : Nat} {l : Lo} {cv : Value} (h : LoBox w lb A0 A1 A2 A3 A4 A5 q0 q1 q2 q3 q4 q5 l) (hb : w.heap[b]? = some (.cells #[cv] t (0, 0))) (ht : t ≠ 31) (hg : w.grownBy w' (some b)) : LoBox w' lb A0 A1 A2 A3 A4 A5 q0 q1 q2 q3 q4 q5 l := by
  refine (hg.block lb (box_lt h) (fun e => ?_)).trans h
  injection e with e
  subst e
  have h1 : w.heap[lb]? = _ := h
  rw [hb] at h1
  injection h1 with h1
  injection h1 with _ h1
  exact ht h1
set_option maxRecDepth 100000 in
set_option maxHeartbeats 4000000 in
theorem extra_any (k0 : Nat) (fs : List (List Int)) (Aw : Option Addr) (qw : Nat) (A0 A1 A2 A3 A4 A5 : Option Addr) (q0 q1 q2 q3 q4 q5 : Nat) (l : Lo) (w : World) (hs : SizedL l) (h : LoA w w.heap.size A0 A1 A2 A3 A4 A5 q0 q1 q2 q3 q4 q5 l) (ok : LoOk l) (hk : k0 < l.ws.length) (hf : Forms w w.heap.size (.slice Aw fs.length qw) fs) (h60 : fs.length ≤ 60) (hv : ∀ f ∈ fs, validF l.m.opts.length f = true) (hN : l.m.opts.length ≤ 12) :
    Calls Tryz.prog 57 #[.agg #[.slice A0 l.m.opts.length q0, .slice A1 l.m.rules.length q1, .slice A2 l.ss.length q2, .slice A3 l.us.length q3, .slice A4 l.ps.length q4, .slice A5 l.ws.length q5], .int .i64 k0, .slice Aw fs.length qw] w (LokP (frstV l.m (l.ws.getD k0 Wi.o).form fs 2) w) := by
  obtain ⟨bw, offw, x, Af, qf, HX, hA, hbw, hq5, HFO, e0, e1, e2, e3, e4, e5, e6⟩ := h.wi hk
  subst hA
  rw [HX.out]
  have hxv : validF l.m.opts.length x.form = true := by
    have h1 := (LoOk.wi ok hk).2
    rw [HX.out] at h1
    exact h1
  have hxl : x.form.length ≤ maxLen := (hs.wn x (by rw [← HX.out]; exact getD_mem7 hk)).2
  obtain ⟨res, hres⟩ : ∃ r, frstV l.m x.form fs 2 = r := ⟨_, rfl⟩
  rw [hres]
  have HRES := hide hres
  have H := hide h
  have HS := hide hs
  have HF := hide hf
  have HV := hide hv
  have HXV := hide hxv
  have OK := hide ok
  have E6 := hide e6
  have ii : (k0 : Int) < (l.ws.length : Int) := by omega
  have ik0 : (0 : Int) ≤ (k0 : Int) := by omega
  have iq : (l.ws.length : Int) ≤ (q5 : Int) := by omega
  clear h hs hf hv hxv ok hres e0 e1 e2 e3 e4 e5 e6 hq5
  go_enter Tryz.func57, Tryz.ntmps57
  go_upto_region 2 with (fail)
  generalize hw0 : World.alloc _ _ = w0
  obtain ⟨hb0, hb1, hB0, hs0⟩ := alloc2 hw0
  have HL0 : Hid (LoBox w0 w.heap.size A0 A1 A2 A3 A4 (some ⟨bw, offw, none⟩) q0 q1 q2 q3 q4 q5 l) := hb0
  have HE0 : Hid (EarAt w0 (w.heap.size + 1) l.m.opts.length (xtrV l.m x.form fs 0)) := by
    rw [xtrV_zero]
    exact ⟨_, hb1, rfl, fun x hx => by cases hx⟩
  have HB0 := hide hB0
  clear hw0 hb0 hb1 hB0 hs0
  go_wp2_with fail
  go_loopw [9, 10, 11, 12, 15] (fun _ _ _ _ i wr => ∃ k : Nat, i = .int .i64 k ∧ k ≤ fs.length ∧ Hid (Below w.heap.size w wr) ∧ Hid (LoBox wr w.heap.size A0 A1 A2 A3 A4 (some ⟨bw, offw, none⟩) q0 q1 q2 q3 q4 q5 l) ∧ Hid (EarAt wr (w.heap.size + 1) l.m.opts.length (xtrV l.m x.form fs k))) (fun _ _ _ _ i _ => fs.length - (intOf i).toNat)
  case atStart => exact ⟨0, rfl, Nat.zero_le _, HB0.out, HL0.out, HE0.out⟩
  case round =>
    obtain ⟨k, rfl, hk2, HB, HL, HE⟩ := hrel
    by_cases hkl : k < fs.length
    · obtain ⟨bf, off, f, Ag, qg, HFK, hA2, hbf, hqf, HG, ef⟩ := HF.out.at7 hkl
      subst hA2
      have hfv : validF l.m.opts.length f = true := by rw [← HFK.out]; exact HV.out _ (getD_mem7 hkl)
      have hfl : f.length ≤ maxLen := by have := (validF_pos hfv).2; unfold maxLen; omega
      have z0 := (HB.out.cell (p := ⟨bf, off + k, none⟩) hbf).trans ef
      have lbf : bf < wr.heap.size := Nat.lt_of_lt_of_le hbf HB.out.size
      have i0 : (0 : Int) ≤ (k : Int) := by omega
      have i1 : (k : Int) < (fs.length : Int) := by omega
      have iqf : (fs.length : Int) ≤ (qw : Int) := by omega
      have hef : l.m.errF [f, x.form] = 0 := errF_all OK.out.m (fun g hg => by
        rcases List.mem_cons.1 hg with h1 | h1
        · rw [h1]; exact hfv
        · rw [List.mem_singleton] at h1; rw [h1]; exact HXV.out)
      obtain ⟨o, ho⟩ : ∃ o, (impL l.m f x.form).head? = o := ⟨_, rfl⟩
      have hoe : (impL l.m f x.form).isEmpty = o.isNone := by rw [empty_head, ho]
      have hstep : xtrV l.m x.form fs (k + 1) = soon (xtrV l.m x.form fs k) o := by rw [xtrV_step hkl, ← ho, imp_head, HFK.out]
      have hol : ∀ y, o = some y → y.length = l.m.opts.length := fun y hy => by
        rw [imp_head] at ho
        exact find_len (ho.trans hy)
      have HEF := hide hef
      have HO := hide ho
      have HOE := hide hoe
      have HST := hide hstep
      have HOL := hide hol
      clear hfv hqf ef hef ho hoe hstep hol
      go_upto_region 5 with (fail)
      clear z0 lbf hbf
      have g6 := (HB.out.cell (p := ⟨bw, offw + k0 * 7 + 6, none⟩) hbw).trans E6.out
      have lbw : bw < wr.heap.size := Nat.lt_of_lt_of_le hbw HB.out.size
      have c0 := cellOf HL.out 0; have c1 := cellOf HL.out 1; have c2 := cellOf HL.out 2; have c3 := cellOf HL.out 3; have c4 := cellOf HL.out 4; have c5 := cellOf HL.out 5
      have lc := box_lt HL.out
      have HHr := hide (H.out.up HB.out)
      have HGr := hide (HG.out.up HB.out)
      have HXr := hide (HFO.out.up HB.out)
      refine wp_region_held_drew (S := (fun w' => Below wr.heap.size wr w')) (by kernel_rfl) ?_ (fun hHeld => ?_)
      · try dsimp only
        exact (by repeat (first | exact Below.refl _ _ | assumption | refine Below.drew ?_ | refine Below.drewN ?_ _ | refine Below.allocT ?_ (Nat.le_refl _) _ | refine Below.setCell ?_ (by simp <;> omega) _ | refine Below.to ?_ (by assumption) (Nat.le_refl _)))
      refine zT 0 rfl ?_
      refine zT 1 rfl ?_
      refine zT 2 rfl ?_
      refine zT 3 rfl ?_
      refine zT 4 rfl ?_
      refine zT 5 rfl ?_
      refine zT 6 rfl ?_
      refine zT 7 rfl ?_
      refine zT 8 rfl ?_
      refine wpAnyH_ready (rs := [9]) (by kernel_rfl) (by simp) ?_
      refine AllReadyH.cons rfl (fun K hK => ?_) AllReadyH.nil
      go_simp
      ((go_at_call 126; refine (Implies_n l.m f x.form _ _ _ _ _ HS.out.m hfl hxl (HHr.out.up hHeld).m (HGr.out.up hHeld) (HXr.out.up hHeld) HEF.out hN).mono ?_; rw [HO.out, HOE.out]; rintro e w2 ⟨v2, rfl, hop, hB2⟩))
      (try dsimp only)
      refine hK.out _ _ ?_ (fun hNext => ?_)
      · try dsimp only
        exact (by repeat (first | exact Below.refl _ _ | assumption | refine Below.drew ?_ | refine Below.drewN ?_ _ | refine Below.allocT ?_ (Nat.le_refl _) _ | refine Below.setCell ?_ (by simp <;> omega) _ | refine Below.to ?_ (by assumption) (Nat.le_refl _)))
      clear hK K hHeld
      have hHeld := hNext
      clear hNext
      (try dsimp only at hHeld)
      try simp only [zX]
      refine zT 10 rfl ?_
      refine zT 11 rfl ?_
      refine zT 12 rfl ?_
      refine zT 13 rfl ?_
      refine zT 14 rfl ?_
      refine zT 15 rfl ?_
      refine zT 16 rfl ?_
      refine wpAnyH_done (by kernel_rfl) ?_ _
      obtain ⟨Av, nv, qv, hv2, _⟩ := hop.form
      subst hv2
      have HOP := hide hop
      have HB2 := hide hHeld
      have HL2 := hide (HL.out.to hHeld)
      have HE2 := hide (HE.out.up hHeld)
      clear hHeld hop c0 c1 c2 c3 c4 c5 lc g6 lbw
      cases o with
      | none =>
        have hxe : xtrV l.m x.form fs (k + 1) = xtrV l.m x.form fs k := by
          rw [HST.out]
          cases xtrV l.m x.form fs k <;> rfl
        have HXE := hide hxe
        clear hxe
        go_wp2_with fail
        go_roundw
        case rel => exact ⟨k + 1, by go_num, by omega, Below.to HB.out HB2.out (Nat.le_refl _), HL2.out, by rw [HXE.out]; exact HE2.out⟩
        case measure => simp [intOf]; omega
      | some y =>
        go_wp2_with (go_at_call 127; refine (show_any (w.heap.size + 1) l.m.opts.length (xtrV l.m x.form fs k) (some y) _ w2 (by omega) HE2.out HOP.out HOL.out).mono ?_; rintro e w3 ⟨rfl, hE3, hg3⟩; have HE3 := hide hE3; have HG3 := hide hg3; clear hE3 hg3)
        go_roundw
        case rel => exact ⟨k + 1, by go_num, by omega, Below.grown (Below.to HB.out HB2.out (Nat.le_refl _)) HG3.out (Nat.le_trans HB.out.size HB2.out.size) (fun j hj => by injection hj with hj; omega), by
          obtain ⟨cv, hcv, _⟩ := HE2.out
          exact HL2.out.grown hcv (by decide) HG3.out, by rw [HST.out]; exact HE3.out⟩
        case measure => simp [intOf]; omega
    · have hke : k = fs.length := by omega
      subst hke
      obtain ⟨cv, hcv, hop, _⟩ := HE.out
      rw [xtrV_all, HRES.out] at hop
      have x0 := cellOf hcv 0
      have lx := box_lt hcv
      have HOP := hide hop
      clear hcv hop
      go_wp2_with fail
      go_ret
      exact ⟨_, rfl, HOP.out, HB.out⟩
end Go.Proofs.YtehadoecnmfeoaaGreat

/- Part 32 of this claim's texts: walks and plain laws. -/
import Derived.Test.YtehadoecnmfeoaaGreatRows
import Derived.Test.YtehadoecnmfeoaaGreatGBS31
import Derived.Laws.OwnMore
import Derived.Deep.DeepMust
import Derived.Deep.RegionHeld3
import Derived.Deep.DrawnRows
import Derived.Test.YtehadoecnmfeoaaGreatGBS3
set_option linter.unusedVariables false
set_option linter.unusedSimpArgs false
set_option linter.unusedSectionVars false
namespace Go.Proofs.YtehadoecnmfeoaaGreat
open Go.RowKit
def LokP (o : Option (List Bool)) (w : World) (e : Ending) (w' : World) : Prop := ∃ v, e = .returned v ∧ OptV w' w'.heap.size v o ∧ Below w.heap.size w w'
theorem forms_reads {w : World} {B n q : Nat} {A : Option Addr} {L : List (List Int)} (h : Forms w B (.slice A n q) L) : ∃ vs : List Value, Reads w B 1 A L.length vs ∧ vs.length = L.length ∧ (∀ u ∈ vs, u.oneCell' = true) ∧ ∀ i, i < L.length → Ints w B (vs.getD i undef) (L.getD i []) := by
 obtain ⟨fv, hs, hf⟩ := h
 have hform := Sl.form hs
 obtain ⟨A', q', he⟩ := hform
 injection he with e1 e2 e3
 subst e1 e2 e3
 have hr := Sl.reads hs (by omega)
 have hat : ∀ i, i < L.length → (flat L.length 1 (fun i _ => fv i))[i]? = some (fv i) := fun i hi => by
  have h1 := flat_get (n := L.length) (sz := 1) (f := fun i (_ : Nat) => fv i) (i := i) (j := 0) hi (by omega)
  rw [Nat.mul_one, Nat.add_zero] at h1
  exact h1
 refine ⟨_, hr, by rw [flat_length, Nat.mul_one], fun u hu => ?_, fun i hi => ?_⟩
 ·
  obtain ⟨m, hm⟩ := List.mem_iff_getElem?.1 hu
  have hml : m < L.length := by
   rcases Nat.lt_or_ge m L.length with h1 | h1
   ·
    exact h1
   ·
    rw [List.getElem?_eq_none (by rw [flat_length]; omega)] at hm
    cases hm
  rw [hat m hml] at hm
  injection hm with hm
  obtain ⟨Ai, qi, ei⟩ := Sl.form (hf m hml)
  rw [← hm, ei]
  rfl
 ·
  rw [List.getD_eq_getElem?_getD, hat i hi]
  exact hf i hi
theorem lackW_set (fs : List (List Int)) : (List.replicate (fs.length + 1) (Value.int .i64 (-1))).set 0 (.int .i64 ((fs.length + 1 : Nat) : Int)) = (lackW fs).map (Value.int .i64) := by
 unfold lackW
 rw [List.replicate_succ, List.set_cons_zero, List.map_cons, List.map_replicate]
theorem lackW_len (fs : List (List Int)) : (lackW fs).length = fs.length + 1 := by simp [lackW]
theorem lackW_bd {fs : List (List Int)} (h : fs.length ≤ 1000) : ∀ x ∈ lackW fs, -1000000 ≤ x ∧ x ≤ 1000000 := by
 intro x hx
 unfold lackW at hx
 rcases List.mem_cons.1 hx with h1 | h1
 ·
  rw [h1]; omega
 ·
  rw [List.mem_replicate] at h1
  rw [h1.2]; omega
theorem errF_all {m : Mo} {L : List (List Int)} (h : m.err = 0) (hv : ∀ f ∈ L, validF m.opts.length f = true) : m.errF L = 0 := by
 unfold Mo.errF
 rw [if_neg (by simp [h]), if_neg (by rw [List.all_eq_true.2 hv]; simp)]
set_option maxRecDepth 100000 in
set_option maxHeartbeats 4000000 in
theorem lacks_any (k : Nat) (fs : List (List Int)) (Aw : Option Addr) (qw : Nat) (A0 A1 A2 A3 A4 A5 : Option Addr) (q0 q1 q2 q3 q4 q5 : Nat) (l : Lo) (w : World) (hs : SizedL l) (h : LoA w w.heap.size A0 A1 A2 A3 A4 A5 q0 q1 q2 q3 q4 q5 l) (ok : LoOk l) (hk : k < l.ws.length) (hf : Forms w w.heap.size (.slice Aw fs.length qw) fs) (h60 : fs.length ≤ 60) (hv : ∀ f ∈ fs, validF l.m.opts.length f = true) (hN : l.m.opts.length ≤ 12) (hne : allM l.m ≠ []) :
  Calls Tryz.prog 56 #[.agg #[.slice A0 l.m.opts.length q0, .slice A1 l.m.rules.length q1, .slice A2 l.ss.length q2, .slice A3 l.us.length q3, .slice A4 l.ps.length q4, .slice A5 l.ws.length q5], .int .i64 k, .slice Aw fs.length qw] w (LokP (frstV l.m (l.ws.getD k Wi.o).form fs 1) w) := by
 obtain ⟨i1, hi1, jz0, jz1, jz2⟩ := info_parts infoForm
 obtain ⟨bw, offw, x, Af, qf, HX, hA, hbw, hq5, HFO, e0, e1, e2, e3, e4, e5, e6⟩ := h.wi hk
 subst hA
 rw [HX.out]
 have hxv : validF l.m.opts.length x.form = true := by
  have h1 := (LoOk.wi ok hk).2
  rw [HX.out] at h1
  exact h1
 have hxl : x.form.length ≤ maxLen := (hs.wn x (by rw [← HX.out]; exact getD_mem7 hk)).2
 obtain ⟨res, hres⟩ : ∃ r, frstV l.m x.form fs 1 = r := ⟨_, rfl⟩
 rw [hres]
 have HRES := hide hres
 have H := hide h
 have HS := hide hs
 have HF := hide hf
 have HV := hide hv
 have HXV := hide hxv
 have OK := hide ok
 have HNE := hide hne
 have ii : (k : Int) < (l.ws.length : Int) := by omega
 have ik0 : (0 : Int) ≤ (k : Int) := by omega
 have iq : (l.ws.length : Int) ≤ (q5 : Int) := by omega
 clear h hs hf hv hxv ok hne hres e0 e1 e2 e3 e4 e5 hq5
 go_enter Tryz.func56, Tryz.ntmps56
 go_upto_region 1 with (fail)
 generalize hw0 : World.alloc _ _ = w0
 obtain ⟨hb0, hB0, hs0⟩ := alloc1 hw0
 have HL0 : Hid (LoBox w0 w.heap.size A0 A1 A2 A3 A4 (some ⟨bw, offw, none⟩) q0 q1 q2 q3 q4 q5 l) := hb0
 have HB0 := hide hB0
 have HF0 := hide (HF.out.up hB0)
 have HFO0 := hide (HFO.out.up hB0)
 have g6 := (hB0.cell (p := ⟨bw, offw + k * 7 + 6, none⟩) hbw).trans e6
 have lbw : bw < w0.heap.size := by omega
 obtain ⟨c0, c1, c2, c3, c4, c5⟩ := zL hb0
 have hlb := box_lt hb0
 obtain ⟨vs, hrd, hvl, hv1, hvi⟩ := forms_reads HF0.out
 have HRD := hide hrd
 have HV1 := hide hv1
 have HVI := hide hvi
 have HVL := hide hvl
 obtain ⟨n, hn⟩ : ∃ n, 1 + fs.length = n := ⟨_, rfl⟩
 clear hw0 hb0 hB0 hs0 hrd hvl hv1 hvi e6
 go_upto_region 2 with (at_builtin; go_must (refine wpList_append_any _ rfl (.tmp 18) (.tmp 19) _ rfl w0.heap.size 46 i1 _ 1 24 Tryz.underlying23 hi1 jz0 jz1 jz2 rfl (by decide) _ 1 [.slice Af x.form.length qf] rfl (World.ownsRow_lit w0 #[.slice Af x.form.length qf] 1 (Nat.le_refl _) (by unfold maxLen; omega) rfl) w0.heap.size Aw fs.length qw vs rfl (HRD.out.alloc (Nat.le_refl _) _) HV1.out (by unfold maxLen; omega) (by omega) (by simp) ?_); intro v1 w1 hown1 hg1 _; rw [hn] at hown1; obtain ⟨Ao, qo, hv1⟩ := owns_form hown1; subst hv1; have HO1 := hide hown1; have HB1 := hide (Below.grown (Below.allocT (Below.refl w0.heap.size w0) (Nat.le_refl _) _) hg1 (by simp) (fun j hj => by injection hj with hj; exact Nat.le_of_eq hj)); clear hown1 hg1 g6 lbw c0 c1 c2 c3 c4 c5 hlb)
 have hwt : WthS w0 w1 (.slice Ao n qo) (x.form :: fs) ([.slice Af x.form.length qf] ++ vs) := by
  have hL : (x.form :: fs).length = n := by rw [List.length_cons, ← hn, Nat.add_comm]
  refine ⟨HB1.out, by simp [HVL.out], by rw [hL]; exact HO1.out, fun i hi => ?_⟩
  cases i with
  | zero => exact HFO0.out
  | succ i =>
   have h1 := HVI.out i (by simpa using hi)
   simpa [List.getD_eq_getElem?_getD] using h1
 have HWT := hide hwt
 have hn1 : 1 ≤ n := by omega
 have hn2 : n ≤ 1000 := by omega
 have HN := hide hn
 clear hwt hn
 go_upto_region 3 with (go_at_call 124; refine (Repeat_g (-1) n hn1 hn2 w1.heap.size _ (heap_alloc_new _ _)).mono ?_; rintro e w2 ⟨g, rfl, hg1, ho2, hB2⟩; have HO2 := hide ho2; have HB2 : Hid (Below w1.heap.size w1 w2) := Below.to (Below.allocT (Below.refl _ _) (Nat.le_refl _) _) hB2 (Nat.le_refl _); have HG1 : Hid (w1.heap.size ≤ g) := (by show _ ≤ _; simp at hg1; omega); clear ho2 hB2 hg1)
 obtain ⟨_, hgq, hgB, hgn, cur, hgh⟩ := own_at7 HO2.out (by omega)
 injection hgq with hgq
 injection hgq with hgq
 subst hgq
 have c0 := HO2.out.cellAt 0 (by omega)
 rw [List.getElem?_replicate, if_pos (by omega)] at c0
 have f0 := HO2.out.frozenAt 0
 have lg := box_lt hgh
 have in0 : (0 : Int) < (n : Int) := by omega
 obtain ⟨ho3, _⟩ := HO2.out.stored 0 (.int .i64 (n : Int))
 have hB3 : Below w1.heap.size w1 (w2.setCell ⟨g, 0, none⟩ (.int .i64 (n : Int))) := Below.setCell HB2.out HG1.out _
 clear hgh hgB hgn
 go_upto_region 4 with (fail)
 generalize hw3 : World.setCell _ _ _ = w3 at ho3 hB3 ⊢
 have hlw : (List.replicate n (Value.int .i64 (-1))).set 0 (.int .i64 (n : Int)) = (lackW fs).map (Value.int .i64) := by
  rw [← HN.out, Nat.add_comm 1 fs.length]
  exact lackW_set fs
 rw [hlw] at ho3
 have hll : (lackW fs).length = n := by rw [lackW_len, ← HN.out, Nat.add_comm]
 have hiw : Ints w3 w3.heap.size (.slice (some ⟨g, 0, none⟩) n n) (lackW fs) := by
  have h1 := ints_own7 (l := lackW fs) (v := .slice (some ⟨g, 0, none⟩) n n) (w := w3) (by rw [hll]; exact ho3)
  exact h1
 have HIW := hide hiw
 have HB3 := hide hB3
 have HW03 := hide (Below.to HB0.out (Below.to HB1.out hB3 (Nat.le_refl _)) (Nat.le_refl _))
 have HFM := hide (HWT.out.to hB3).forms
 have HL3 := hide ((HL0.out.to HB1.out).to hB3)
 obtain ⟨d0, d1, d2, d3, d4, d5⟩ := zL HL3.out
 have ld := box_lt HL3.out
 have hef : l.m.errF (x.form :: fs) = 0 := errF_all OK.out.m (fun f hf => by
  rcases List.mem_cons.1 hf with h1 | h1
  ·
   rw [h1]; exact HXV.out
  ·
   exact HV.out f h1)
 have hsz : Sized (x.form :: fs) := ⟨by unfold maxLen; simp; omega, fun f hf => by
  rcases List.mem_cons.1 hf with h1 | h1
  ·
   rw [h1]; exact hxl
  ·
   have := (validF_pos (HV.out f h1)).2
   unfold maxLen; omega⟩
 have hmo := Most_n l.m (x.form :: fs) (lackW fs) _ _ _ _ w3 HS.out.m hsz (H.out.up HW03.out).m HFM.out HIW.out hef hN (by simp; omega) (by rw [lackW_len, List.length_cons]) (lackW_bd (by omega)) (by rw [satM_true]; exact HNE.out)
 unfold MostN at hmo
 obtain ⟨bst, hbst⟩ : ∃ z, bestF l.m (x.form :: fs) (lackW fs) = z := ⟨_, rfl⟩
 have HBS := hide hbst
 rw [hbst] at hmo
 have HMO := hide hmo
 clear hw3 ho3 hB3 hlw hll hiw hef hsz hmo hbst c0 f0 lg
 by_cases hlt : bst < (n : Int)
 ·
  go_wp2_with (go_at_call 125; refine HMO.out.mono ?_; rintro e w4 ⟨v4, y, rfl, hfi, hyl, hop, hB4⟩; obtain ⟨Av, nv, qv, hv4, _⟩ := hop.form; subst hv4; have HFI := hide hfi; have HOP := hide hop; have HB4 := hide (Below.to HW03.out hB4 (Nat.le_refl _)); clear hfi hyl hop hB4 d0 d1 d2 d3 d4 d5 ld)
  go_ret
  have hla := (lack_law (m := l.m) (f := x.form) (fs := fs) (by omega) (by rw [HBS.out]; exact HFI.out)).2 (by rw [HBS.out]; have := HN.out; omega)
  rw [HRES.out] at hla
  subst hla
  exact ⟨_, rfl, rfl, HB4.out⟩
 ·
  go_wp2_with (go_at_call 125; refine HMO.out.mono ?_; rintro e w4 ⟨v4, y, rfl, hfi, hyl, hop, hB4⟩; obtain ⟨Av, nv, qv, hv4, _⟩ := hop.form; subst hv4; have HFI := hide hfi; have HOP := hide hop; have HB4 := hide (Below.to HW03.out hB4 (Nat.le_refl _)); clear hfi hyl hop hB4 d0 d1 d2 d3 d4 d5 ld)
  go_ret
  have hla := (lack_law (m := l.m) (f := x.form) (fs := fs) (by omega) (by rw [HBS.out]; exact HFI.out)).1 (by rw [HBS.out]; have := HN.out; omega)
  rw [HRES.out] at hla
  subst hla
  exact ⟨_, rfl, HOP.out, HB4.out⟩
theorem imp_head (m : Mo) (f g : List Int) : (impL m f g).head? = (allM m).find? fun x => evF1 (vf x) f && !evF1 (vf x) g := by
 unfold impL
 rw [satM_all, head_find]
theorem mee_head (m : Mo) (L : List (List Int)) : (meeL m L).head? = (allM m).find? fun x => allF (vf x) L := by
 unfold meeL
 rw [satM_all, head_find]
theorem allM_len6 {m : Mo} {x : List Bool} (h : x ∈ allM m) : x.length = m.opts.length := by
 have h1 := (List.mem_filter.1 h).1
 have h2 := exts_len _ _ _ h1
 simpa using h2
theorem find_len {m : Mo} {p : List Bool → Bool} {x : List Bool} (h : (allM m).find? p = some x) : x.length = m.opts.length := allM_len6 (List.mem_of_find?_eq_some h)
theorem empty_head {α : Type} (l : List α) : l.isEmpty = l.head?.isNone := by cases l <;> rfl
theorem Forms.at7 {w : World} {B n q : Nat} {A : Option Addr} {L : List (List Int)} (h : Forms w B (.slice A n q) L) {k : Nat} (hk : k < L.length) : ∃ b off f Af qf, Hid (L.getD k [] = f) ∧ A = some ⟨b, off, none⟩ ∧ b < B ∧ L.length ≤ q ∧ Hid (Ints w B (.slice Af f.length qf) f) ∧ w.cell? ⟨b, off + k, none⟩ = some (.slice Af f.length qf) := by
 obtain ⟨fv, hs, hf⟩ := h
 obtain ⟨h1, h2, b, off, h3, h4, h5⟩ := sl_at hs hk
 have hx := hf k hk
 obtain ⟨Af, qf, e⟩ := Sl.form hx
 have c0 := h5 0 (by omega)
 rw [Nat.mul_one, Nat.add_zero, e] at c0
 rw [e] at hx
 exact ⟨b, off, _, Af, qf, rfl, h3, h4, by omega, hx, c0⟩
theorem LoBox.grown {w w' : World} {lb b t : Nat} {A0 A1 A2 A3 A4 A5 : Option Addr} {q0 q1 q2 q3 q4 q5 : Nat} {l : Lo} {cv : Value} (h : LoBox w lb A0 A1 A2 A3 A4 A5 q0 q1 q2 q3 q4 q5 l) (hb : w.heap[b]? = some (.cells #[cv] t (0, 0))) (ht : t ≠ 31) (hg : w.grownBy w' (some b)) : LoBox w' lb A0 A1 A2 A3 A4 A5 q0 q1 q2 q3 q4 q5 l := by
 refine (hg.block lb (box_lt h) (fun e => ?_)).trans h
 injection e with e
 subst e
 have h1 : w.heap[lb]? = _ := h
 rw [hb] at h1
 injection h1 with h1
 injection h1 with _ h1
 exact ht h1
set_option maxRecDepth 100000 in
set_option maxHeartbeats 4000000 in
theorem extra_any (k0 : Nat) (fs : List (List Int)) (Aw : Option Addr) (qw : Nat) (A0 A1 A2 A3 A4 A5 : Option Addr) (q0 q1 q2 q3 q4 q5 : Nat) (l : Lo) (w : World) (hs : SizedL l) (h : LoA w w.heap.size A0 A1 A2 A3 A4 A5 q0 q1 q2 q3 q4 q5 l) (ok : LoOk l) (hk : k0 < l.ws.length) (hf : Forms w w.heap.size (.slice Aw fs.length qw) fs) (h60 : fs.length ≤ 60) (hv : ∀ f ∈ fs, validF l.m.opts.length f = true) (hN : l.m.opts.length ≤ 12) :
  Calls Tryz.prog 57 #[.agg #[.slice A0 l.m.opts.length q0, .slice A1 l.m.rules.length q1, .slice A2 l.ss.length q2, .slice A3 l.us.length q3, .slice A4 l.ps.length q4, .slice A5 l.ws.length q5], .int .i64 k0, .slice Aw fs.length qw] w (LokP (frstV l.m (l.ws.getD k0 Wi.o).form fs 2) w) := by
 obtain ⟨bw, offw, x, Af, qf, HX, hA, hbw, hq5, HFO, e0, e1, e2, e3, e4, e5, e6⟩ := h.wi hk
 subst hA
 rw [HX.out]
 have hxv : validF l.m.opts.length x.form = true := by
  have h1 := (LoOk.wi ok hk).2
  rw [HX.out] at h1
  exact h1
 have hxl : x.form.length ≤ maxLen := (hs.wn x (by rw [← HX.out]; exact getD_mem7 hk)).2
 obtain ⟨res, hres⟩ : ∃ r, frstV l.m x.form fs 2 = r := ⟨_, rfl⟩
 rw [hres]
 have HRES := hide hres
 have H := hide h
 have HS := hide hs
 have HF := hide hf
 have HV := hide hv
 have HXV := hide hxv
 have OK := hide ok
 have E6 := hide e6
 have ii : (k0 : Int) < (l.ws.length : Int) := by omega
 have ik0 : (0 : Int) ≤ (k0 : Int) := by omega
 have iq : (l.ws.length : Int) ≤ (q5 : Int) := by omega
 clear h hs hf hv hxv ok hres e0 e1 e2 e3 e4 e5 e6 hq5
 go_enter Tryz.func57, Tryz.ntmps57
 go_upto_region 2 with (fail)
 generalize hw0 : World.alloc _ _ = w0
 obtain ⟨hb0, hb1, hB0, hs0⟩ := alloc2 hw0
 have HL0 : Hid (LoBox w0 w.heap.size A0 A1 A2 A3 A4 (some ⟨bw, offw, none⟩) q0 q1 q2 q3 q4 q5 l) := hb0
 have HE0 : Hid (EarAt w0 (w.heap.size + 1) l.m.opts.length (xtrV l.m x.form fs 0)) := by
  rw [xtrV_zero]
  exact ⟨_, hb1, rfl, fun x hx => by cases hx⟩
 have HB0 := hide hB0
 clear hw0 hb0 hb1 hB0 hs0
 go_wp2_with fail
 go_loopw [9, 10, 11, 12, 15] (fun _ _ _ _ i wr => ∃ k : Nat, i = .int .i64 k ∧ k ≤ fs.length ∧ Hid (Below w.heap.size w wr) ∧ Hid (LoBox wr w.heap.size A0 A1 A2 A3 A4 (some ⟨bw, offw, none⟩) q0 q1 q2 q3 q4 q5 l) ∧ Hid (EarAt wr (w.heap.size + 1) l.m.opts.length (xtrV l.m x.form fs k))) (fun _ _ _ _ i _ => fs.length - (intOf i).toNat)
 case atStart => exact ⟨0, rfl, Nat.zero_le _, HB0.out, HL0.out, HE0.out⟩
 case round =>
  obtain ⟨k, rfl, hk2, HB, HL, HE⟩ := hrel
  by_cases hkl : k < fs.length
  ·
   obtain ⟨bf, off, f, Ag, qg, HFK, hA2, hbf, hqf, HG, ef⟩ := HF.out.at7 hkl
   subst hA2
   have hfv : validF l.m.opts.length f = true := by rw [← HFK.out]; exact HV.out _ (getD_mem7 hkl)
   have hfl : f.length ≤ maxLen := by have := (validF_pos hfv).2; unfold maxLen; omega
   have z0 := (HB.out.cell (p := ⟨bf, off + k, none⟩) hbf).trans ef
   have lbf : bf < wr.heap.size := Nat.lt_of_lt_of_le hbf HB.out.size
   have i0 : (0 : Int) ≤ (k : Int) := by omega
   have i1 : (k : Int) < (fs.length : Int) := by omega
   have iqf : (fs.length : Int) ≤ (qw : Int) := by omega
   have hef : l.m.errF [f, x.form] = 0 := errF_all OK.out.m (fun g hg => by
    rcases List.mem_cons.1 hg with h1 | h1
    ·
     rw [h1]; exact hfv
    ·
     rw [List.mem_singleton] at h1; rw [h1]; exact HXV.out)
   obtain ⟨o, ho⟩ : ∃ o, (impL l.m f x.form).head? = o := ⟨_, rfl⟩
   have hoe : (impL l.m f x.form).isEmpty = o.isNone := by rw [empty_head, ho]
   have hstep : xtrV l.m x.form fs (k + 1) = soon (xtrV l.m x.form fs k) o := by rw [xtrV_step hkl, ← ho, imp_head, HFK.out]
   have hol : ∀ y, o = some y → y.length = l.m.opts.length := fun y hy => by
    rw [imp_head] at ho
    exact find_len (ho.trans hy)
   have HEF := hide hef
   have HO := hide ho
   have HOE := hide hoe
   have HST := hide hstep
   have HOL := hide hol
   clear hfv hqf ef hef ho hoe hstep hol
   go_upto_region 5 with (fail)
   clear z0 lbf hbf
   have g6 := (HB.out.cell (p := ⟨bw, offw + k0 * 7 + 6, none⟩) hbw).trans E6.out
   have lbw : bw < wr.heap.size := Nat.lt_of_lt_of_le hbw HB.out.size
   obtain ⟨c0, c1, c2, c3, c4, c5⟩ := zL HL.out
   have lc := box_lt HL.out
   have HHr := hide (H.out.up HB.out)
   have HGr := hide (HG.out.up HB.out)
   have HXr := hide (HFO.out.up HB.out)
   refine wp_region_held_drew (S := (fun w' => Below wr.heap.size wr w')) (by kernel_rfl) ?_ (fun hHeld => ?_)
   ·
    try dsimp only
    exact zP
   refine zT 0 rfl ?_
   refine zT 1 rfl ?_
   refine zT 2 rfl ?_
   refine zT 3 rfl ?_
   refine zT 4 rfl ?_
   refine zT 5 rfl ?_
   refine zT 6 rfl ?_
   refine zT 7 rfl ?_
   refine zT 8 rfl ?_
   refine wpAnyH_ready (rs := [9]) (by kernel_rfl) (by simp) ?_
   refine AllReadyH.cons rfl (fun K hK => ?_) AllReadyH.nil
   go_simp
   ((go_at_call 126; refine (Implies_n l.m f x.form _ _ _ _ _ HS.out.m hfl hxl (HHr.out.up hHeld).m (HGr.out.up hHeld) (HXr.out.up hHeld) HEF.out hN).mono ?_; rw [HO.out, HOE.out]; rintro e w2 ⟨v2, rfl, hop, hB2⟩))
   (try dsimp only)
   refine hK.out _ _ zP fun hNext => ?_; clear hK K hHeld; have hHeld := hNext; clear hNext; (try dsimp only at hHeld); try simp only [zX]
   refine zT 10 rfl ?_
   refine zT 11 rfl ?_
   refine zT 12 rfl ?_
   refine zT 13 rfl ?_
   refine zT 14 rfl ?_
   refine zT 15 rfl ?_
   refine zT 16 rfl ?_
   refine wpAnyH_done (by kernel_rfl) ?_ _
   obtain ⟨Av, nv, qv, hv2, _⟩ := hop.form
   subst hv2
   have HOP := hide hop
   have HB2 := hide hHeld
   have HL2 := hide (HL.out.to hHeld)
   have HE2 := hide (HE.out.up hHeld)
   clear hHeld hop c0 c1 c2 c3 c4 c5 lc g6 lbw
   cases o with
   | none =>
    have hxe : xtrV l.m x.form fs (k + 1) = xtrV l.m x.form fs k := by
     rw [HST.out]
     cases xtrV l.m x.form fs k <;> rfl
    have HXE := hide hxe
    clear hxe
    go_wp2_with fail
    go_roundw
    case rel => exact ⟨k + 1, by go_num, by omega, Below.to HB.out HB2.out (Nat.le_refl _), HL2.out, by rw [HXE.out]; exact HE2.out⟩
    case measure => simp [intOf]; omega
   | some y =>
    go_wp2_with (go_at_call 127; refine (show_any (w.heap.size + 1) l.m.opts.length (xtrV l.m x.form fs k) (some y) _ w2 (by omega) HE2.out HOP.out HOL.out).mono ?_; rintro e w3 ⟨rfl, hE3, hg3⟩; have HE3 := hide hE3; have HG3 := hide hg3; clear hE3 hg3)
    go_roundw
    case rel => exact ⟨k + 1, by go_num, by omega, Below.grown (Below.to HB.out HB2.out (Nat.le_refl _)) HG3.out (Nat.le_trans HB.out.size HB2.out.size) (fun j hj => by injection hj with hj; omega), by
     obtain ⟨cv, hcv, _⟩ := HE2.out
     exact HL2.out.grown hcv (by decide) HG3.out, by rw [HST.out]; exact HE3.out⟩
    case measure => simp [intOf]; omega
  ·
   have hke : k = fs.length := by omega
   subst hke
   obtain ⟨cv, hcv, hop, _⟩ := HE.out
   rw [xtrV_all, HRES.out] at hop
   have x0 := cellOf hcv 0
   have lx := box_lt hcv
   have HOP := hide hop
   clear hcv hop
   go_wp2_with fail
   go_ret
   exact ⟨_, rfl, HOP.out, HB.out⟩
theorem forms_three {w : World} {b B : Nat} {fv gv hv : Value} {f g h : List Int} {t : Nat} (hb : w.heap[b]? = some (.cells #[fv, gv, hv] t (0, 0))) (hB : b < B) (h1 : Ints w B fv f) (h2 : Ints w B gv g) (h3 : Ints w B hv h) : Forms w B (.slice (some ⟨b, 0, none⟩) 3 3) [f, g, h] :=
 ⟨fun i => if i = 0 then fv else if i = 1 then gv else hv, ⟨_, b, 0, 3, rfl, Nat.le_refl _, .inl ⟨rfl, hB⟩, fun i j hi hj => by
  simp at hi
  obtain rfl : j = 0 := by omega
  rcases (by omega : i = 0 ∨ i = 1 ∨ i = 2) with rfl | rfl | rfl
  ·
   exact cellOf hb 0
  ·
   exact cellOf hb 1
  ·
   exact cellOf hb 2⟩, fun i hi => by
  simp at hi
  rcases (by omega : i = 0 ∨ i = 1 ∨ i = 2) with rfl | rfl | rfl
  ·
   exact h1
  ·
   exact h2
  ·
   exact h3⟩
theorem sized_three {f g h : List Int} (h1 : f.length ≤ maxLen) (h2 : g.length ≤ maxLen) (h3 : h.length ≤ maxLen) : Sized [f, g, h] := ⟨by unfold maxLen; simp, fun x hx => by simp at hx; rcases hx with rfl | rfl | rfl <;> assumption⟩
theorem dub_head (m : Mo) (f g h : List Int) : (meeL m [f, g, h]).head? = (allM m).find? fun x => evF1 (vf x) f && (evF1 (vf x) g && evF1 (vf x) h) := by
 rw [mee_head]
 congr 1
 funext x
 simp [allF]
set_option maxRecDepth 100000 in
set_option maxHeartbeats 4000000 in
theorem double_any (k0 : Nat) (fs : List (List Int)) (Aw : Option Addr) (qw : Nat) (A0 A1 A2 A3 A4 A5 : Option Addr) (q0 q1 q2 q3 q4 q5 : Nat) (l : Lo) (w : World) (hs : SizedL l) (h : LoA w w.heap.size A0 A1 A2 A3 A4 A5 q0 q1 q2 q3 q4 q5 l) (ok : LoOk l) (hk : k0 < l.ws.length) (hf : Forms w w.heap.size (.slice Aw fs.length qw) fs) (h60 : fs.length ≤ 60) (hv : ∀ f ∈ fs, validF l.m.opts.length f = true) (hN : l.m.opts.length ≤ 12) :
  Calls Tryz.prog 58 #[.agg #[.slice A0 l.m.opts.length q0, .slice A1 l.m.rules.length q1, .slice A2 l.ss.length q2, .slice A3 l.us.length q3, .slice A4 l.ps.length q4, .slice A5 l.ws.length q5], .int .i64 k0, .slice Aw fs.length qw] w (LokP (frstV l.m (l.ws.getD k0 Wi.o).form fs 3) w) := by
 obtain ⟨bw, offw, x, Af, qf, HX, hA, hbw, hq5, HFO, e0, e1, e2, e3, e4, e5, e6⟩ := h.wi hk
 subst hA
 rw [HX.out]
 have hxv : validF l.m.opts.length x.form = true := by
  have h1 := (LoOk.wi ok hk).2
  rw [HX.out] at h1
  exact h1
 have hxl : x.form.length ≤ maxLen := (hs.wn x (by rw [← HX.out]; exact getD_mem7 hk)).2
 obtain ⟨res, hres⟩ : ∃ r, frstV l.m x.form fs 3 = r := ⟨_, rfl⟩
 rw [hres]
 have HRES := hide hres
 have H := hide h
 have HS := hide hs
 have HF := hide hf
 have HV := hide hv
 have HXV := hide hxv
 have OK := hide ok
 have E6 := hide e6
 have ii : (k0 : Int) < (l.ws.length : Int) := by omega
 have ik0 : (0 : Int) ≤ (k0 : Int) := by omega
 have iq : (l.ws.length : Int) ≤ (q5 : Int) := by omega
 clear h hs hf hv hxv ok hres e0 e1 e2 e3 e4 e5 e6 hq5
 go_enter Tryz.func58, Tryz.ntmps58
 go_upto_region 2 with (fail)
 generalize hw0 : World.alloc _ _ = w0
 obtain ⟨hb0, hb1, hB0, hs0⟩ := alloc2 hw0
 have HL0 : Hid (LoBox w0 w.heap.size A0 A1 A2 A3 A4 (some ⟨bw, offw, none⟩) q0 q1 q2 q3 q4 q5 l) := hb0
 have HE0 : Hid (EarAt w0 (w.heap.size + 1) l.m.opts.length (dubV l.m x.form fs 0 0)) := by
  rw [dubV_zero]
  exact ⟨_, hb1, rfl, fun x hx => by cases hx⟩
 have HB0 := hide hB0
 clear hw0 hb0 hb1 hB0 hs0
 go_wp2_with fail
 go_loopw [8, 9, 11, 12, 13, 14, 17] (fun _ _ _ _ _ _ i wr => ∃ k : Nat, i = .int .i64 k ∧ k ≤ fs.length ∧ Hid (Below w.heap.size w wr) ∧ Hid (LoBox wr w.heap.size A0 A1 A2 A3 A4 (some ⟨bw, offw, none⟩) q0 q1 q2 q3 q4 q5 l) ∧ Hid (EarAt wr (w.heap.size + 1) l.m.opts.length (dubV l.m x.form fs k 0))) (fun _ _ _ _ _ _ i _ => fs.length - (intOf i).toNat)
 case atStart => exact ⟨0, rfl, Nat.zero_le _, HB0.out, HL0.out, HE0.out⟩
 case round =>
  obtain ⟨k, rfl, hk2, HB, HL, HE⟩ := hrel
  by_cases hkl : k < fs.length
  ·
   obtain ⟨bf, off, f, Ag, qg, HFK, hA2, hbf, hqf, HG, ef⟩ := HF.out.at7 hkl
   subst hA2
   have hfv : validF l.m.opts.length f = true := by rw [← HFK.out]; exact HV.out _ (getD_mem7 hkl)
   have hfl : f.length ≤ maxLen := by have := (validF_pos hfv).2; unfold maxLen; omega
   have z0 := (HB.out.cell (p := ⟨bf, off + k, none⟩) hbf).trans ef
   have lbf : bf < wr.heap.size := Nat.lt_of_lt_of_le hbf HB.out.size
   have i0 : (0 : Int) ≤ (k : Int) := by omega
   have i1 : (k : Int) < (fs.length : Int) := by omega
   have iqf : (fs.length : Int) ≤ (qw : Int) := by omega
   have ikq : (k : Int) ≤ (qw : Int) := by omega
   have HFV := hide hfv
   obtain ⟨wo, hwo⟩ : ∃ wo : World, wo = wr := ⟨_, rfl⟩
   subst hwo
   clear hqf ef hfv
   go_wp2_with fail
   clear z0 lbf
   go_loopw [11, 12, 13, 14, 26] (fun _ _ _ _ i wr => ∃ j : Nat, i = .int .i64 j ∧ j ≤ k ∧ Hid (Below w.heap.size w wr) ∧ Hid (LoBox wr w.heap.size A0 A1 A2 A3 A4 (some ⟨bw, offw, none⟩) q0 q1 q2 q3 q4 q5 l) ∧ Hid (EarAt wr (w.heap.size + 1) l.m.opts.length (dubV l.m x.form fs k j))) (fun _ _ _ _ i _ => k - (intOf i).toNat)
   case atStart => exact ⟨0, rfl, Nat.zero_le _, HB.out, HL.out, HE.out⟩
   case round =>
    clear HB HL HE
    obtain ⟨j, rfl, hj2, HB, HL, HE⟩ := hrel
    by_cases hjl : j < k
    ·
     obtain ⟨bg, offg, g, Ah, qh, HGK, hA3, hbg, hqg, HG2, eg⟩ := HF.out.at7 (show j < fs.length by omega)
     injection hA3 with hA3
     injection hA3 with q1' q2'
     subst q1' q2'
     have hgv : validF l.m.opts.length g = true := by rw [← HGK.out]; exact HV.out _ (getD_mem7 (by omega))
     have hgl : g.length ≤ maxLen := by have := (validF_pos hgv).2; unfold maxLen; omega
     have z1 := (HB.out.cell (p := ⟨bf, off + j, none⟩) hbf).trans eg
     have lbf : bf < wr.heap.size := Nat.lt_of_lt_of_le hbf HB.out.size
     have j0 : (0 : Int) ≤ (j : Int) := by omega
     have j1 : (j : Int) < (k : Int) := by omega
     have hef : l.m.errF [x.form, f, g] = 0 := errF_all OK.out.m (fun y hy => by
      simp only [List.mem_cons, List.not_mem_nil, or_false] at hy
      rcases hy with h1 | h1 | h1
      ·
       rw [h1]; exact HXV.out
      ·
       rw [h1]; exact HFV.out
      ·
       rw [h1]; exact hgv)
     obtain ⟨o, ho⟩ : ∃ o, (meeL l.m [x.form, f, g]).head? = o := ⟨_, rfl⟩
     have hoe : (!(meeL l.m [x.form, f, g]).isEmpty) = !o.isNone := by rw [empty_head, ho]
     have hstep : dubV l.m x.form fs k (j + 1) = soon (dubV l.m x.form fs k j) o := by rw [dubV_in hjl hkl, ← ho, dub_head, HFK.out, HGK.out]
     have hol : ∀ y, o = some y → y.length = l.m.opts.length := fun y hy => by
      rw [dub_head] at ho
      exact find_len (ho.trans hy)
     have HEF := hide hef
     have HO := hide ho
     have HOE := hide hoe
     have HST := hide hstep
     have HOL := hide hol
     clear hgv hqg eg hef ho hoe hstep hol
     go_upto_region 8 with (fail)
     clear z1 lbf
     have g6 := (HB.out.cell (p := ⟨bw, offw + k0 * 7 + 6, none⟩) hbw).trans E6.out
     have lbw : bw < wr.heap.size := Nat.lt_of_lt_of_le hbw HB.out.size
     obtain ⟨c0, c1, c2, c3, c4, c5⟩ := zL HL.out
     have lc := box_lt HL.out
     have HHr := hide (H.out.up HB.out)
     have HGr := hide (HG.out.up HB.out)
     have HG2r := hide (HG2.out.up HB.out)
     have HXr := hide (HFO.out.up HB.out)
     refine wp_region_held_drew (S := (fun w' => Below wr.heap.size wr w')) (by kernel_rfl) ?_ (fun hHeld => ?_)
     ·
      try dsimp only
      exact zP
     refine zT 0 rfl ?_
     refine zT 1 rfl ?_
     refine zT 2 rfl ?_
     refine zT 3 rfl ?_
     refine zT 4 rfl ?_
     refine zT 5 rfl ?_
     refine zT 6 rfl ?_
     refine zT 7 rfl ?_
     refine zT 8 rfl ?_
     refine zT 9 rfl ?_
     refine wpAnyH_ready (rs := [10]) (by kernel_rfl) (by simp) ?_
     refine AllReadyH.cons rfl (fun K hK => ?_) AllReadyH.nil
     go_simp
     refine hK.out _ _ zP fun hNext => ?_; clear hK K hHeld; have hHeld := hNext; clear hNext; (try dsimp only at hHeld); try simp only [zX]
     refine wpAnyH_ready (rs := [11]) (by kernel_rfl) (by simp) ?_
     refine AllReadyH.cons rfl (fun K hK => ?_) AllReadyH.nil
     go_simp
     ((go_at_call 54; refine (Meets_n l.m [x.form, f, g] _ _ _ _ HS.out.m (sized_three hxl hfl hgl) (HHr.out.up hHeld).m (forms_three (heap_new _ _ _ rfl) (by simp) (HXr.out.up hHeld) (HGr.out.up hHeld) (HG2r.out.up hHeld)) HEF.out hN (by simp)).mono ?_; rw [HO.out, HOE.out]; rintro e w2 ⟨v2, rfl, hop, hB2⟩))
     (try dsimp only)
     refine hK.out _ _ zP fun hNext => ?_; clear hK K hHeld; have hHeld := hNext; clear hNext; (try dsimp only at hHeld); try simp only [zX]
     refine zT 12 rfl ?_
     refine zT 13 rfl ?_
     refine zT 14 rfl ?_
     refine zT 15 rfl ?_
     refine zT 16 rfl ?_
     refine zT 17 rfl ?_
     refine zT 18 rfl ?_
     refine wpAnyH_done (by kernel_rfl) ?_ _
     obtain ⟨Av, nv, qv, hv2, _⟩ := hop.form
     subst hv2
     have HOP := hide hop
     have HB2 := hide hHeld
     have HL2 := hide (HL.out.to hHeld)
     have HE2 := hide (HE.out.up hHeld)
     clear hHeld hop c0 c1 c2 c3 c4 c5 lc g6 lbw
     cases o with
     | none =>
      have hxe : dubV l.m x.form fs k (j + 1) = dubV l.m x.form fs k j := by
       rw [HST.out]
       cases dubV l.m x.form fs k j <;> rfl
      have HXE := hide hxe
      clear hxe
      go_wp2_with fail
      go_roundw
      case rel => exact ⟨j + 1, by go_num, by omega, Below.to HB.out HB2.out (Nat.le_refl _), HL2.out, by rw [HXE.out]; exact HE2.out⟩
      case measure => simp [intOf]; omega
     | some y =>
      go_wp2_with (go_at_call 127; refine (show_any (w.heap.size + 1) l.m.opts.length (dubV l.m x.form fs k j) (some y) _ w2 (by omega) HE2.out HOP.out HOL.out).mono ?_; rintro e w3 ⟨rfl, hE3, hg3⟩; have HE3 := hide hE3; have HG3 := hide hg3; clear hE3 hg3)
      go_roundw
      case rel => exact ⟨j + 1, by go_num, by omega, Below.grown (Below.to HB.out HB2.out (Nat.le_refl _)) HG3.out (Nat.le_trans HB.out.size HB2.out.size) (fun j hj => by injection hj with hj; omega), by
       obtain ⟨cv, hcv, _⟩ := HE2.out
       exact HL2.out.grown hcv (by decide) HG3.out, by rw [HST.out]; exact HE3.out⟩
      case measure => simp [intOf]; omega
    ·
     have hje : j = k := by omega
     have j1 : ¬ (j : Int) < (k : Int) := by omega
     have HJE := hide hje
     clear hje
     go_wp2_with fail
     go_roundw
     case rel => exact ⟨k + 1, by go_num, by omega, HB.out, HL.out, by rw [← dubV_next]; have h1 := HE.out; rw [HJE.out] at h1; exact h1⟩
     case measure => simp [intOf]; omega
  ·
   have hke : k = fs.length := by omega
   subst hke
   obtain ⟨cv, hcv, hop, _⟩ := HE.out
   rw [dubV_all, HRES.out] at hop
   have x0 := cellOf hcv 0
   have lx := box_lt hcv
   have HOP := hide hop
   clear hcv hop
   go_wp2_with fail
   go_ret
   exact ⟨_, rfl, HOP.out, HB.out⟩
end Go.Proofs.YtehadoecnmfeoaaGreat

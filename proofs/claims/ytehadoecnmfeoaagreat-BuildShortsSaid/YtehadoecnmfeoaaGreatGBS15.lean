/- Part 15 of this claim's texts: walks and plain laws. -/
import Derived.Test.YtehadoecnmfeoaaGreatRows
import Derived.Test.YtehadoecnmfeoaaGreatGBS14
import Derived.Test.YtehadoecnmfeoaaGreatGBS3
set_option linter.unusedVariables false
set_option linter.unusedSimpArgs false
set_option linter.unusedSectionVars false
namespace Go.Proofs.YtehadoecnmfeoaaGreat
open Go.RowKit
def OptV (w : World) (B : Nat) (v : Value) (o : Option (List Bool)) : Prop :=
 match o with
 | none => v = .slice none 0 0
 | some x => (∃ ad q, v = .slice (some ad) x.length q) ∧ Bols w B v x
theorem OptV.up {w w' : World} {v : Value} {o : Option (List Bool)} (h : OptV w w.heap.size v o) (hb : Below w.heap.size w w') : OptV w' w'.heap.size v o := by
 cases o with
 | none => exact h
 | some x => exact ⟨h.1, Sl.up h.2 hb⟩
theorem OptV.form {w : World} {B : Nat} {v : Value} {o : Option (List Bool)} (h : OptV w B v o) : ∃ A n q, v = .slice A n q ∧ A.isNone = o.isNone := by
 cases o with
 | none => exact ⟨none, 0, 0, h, rfl⟩
 | some x =>
  obtain ⟨⟨ad, q, rfl⟩, _⟩ := h
  exact ⟨some ad, _, q, rfl, rfl⟩
def FstN (F : Fo) (n : Nat) (w : World) (e : Ending) (w' : World) : Prop := ∃ v, e = .returned v ∧ OptV w' w'.heap.size v (sat F.ks F.N n []).head? ∧ Below w.heap.size w w'
theorem firstN_any (F : Fo) (n : Nat) (w : World) (h : FoAt w F) (hn : n < F.ks.length) (hN : F.N ≤ 12) :
  Calls Tryz.prog 122 #[.pointer (some ⟨F.p, 0, none⟩), .int .i64 n] w (FstN F n w) := by
 by_cases h0 : n = 0
 ·
  subst h0
  refine (firstNo_any F w).mono ?_
  rintro e w' ⟨rfl, rfl⟩
  refine ⟨_, rfl, ?_, Below.refl _ _⟩
  rw [sat_zero]
  rfl
 ·
  refine (firstYes_any F n w h hn h0 hN).mono ?_
  rintro e w' ⟨x, rfl, h1, h2, h3, h4⟩
  refine ⟨_, rfl, ?_, h4⟩
  rw [h3]
  exact ⟨⟨_, F.N, by rw [h2]⟩, FirR.bols h1 h2⟩
def MeeN (o : Option (List Bool)) (is : Bool) (w : World) (e : Ending) (w' : World) : Prop := ∃ v, e = .returned (.tuple #[v, .bool is, .int .i64 0]) ∧ OptV w' w'.heap.size v o ∧ Below w.heap.size w w'
set_option maxRecDepth 100000 in
set_option maxHeartbeats 4000000 in
theorem Meets_n (m : Mo) (l : List (List Int)) (ov rv lv : Value) (w : World) (hs : SizedM m) (hl : Sized l) (h : MoAt w w.heap.size ov rv m) (hf : Forms w w.heap.size lv l) (he : m.errF l = 0) (hN : m.opts.length ≤ 12) (h200 : l.length ≤ 200) :
  Calls Tryz.prog 54 #[.agg #[ov, rv], lv] w (MeeN (meeL m l).head? (!(meeL m l).isEmpty) w) := by
 obtain ⟨A, cap, hov⟩ := Sl.form h.o
 obtain ⟨Ar, capr, hrv⟩ := h.r.form
 obtain ⟨Al, capl, hlv⟩ := hf.form
 have H := hide h
 have HF := hide hf
 have HS := hide hs
 have HL := hide hl
 subst hov hrv hlv
 have hm := (Mo.okF he).1
 have hfr : frmE m l = 0 := by rw [frm_rest hm h200]; exact he
 have hz1 : ¬ (200 : Int) < (l.length : Int) := by omega
 have HE := hide he
 have HM := hide hm
 have HFR := hide hfr
 clear h hf hs hl hm he hfr
 go_enter Tryz.func54, Tryz.ntmps54
 go_upto_region 1 with (fail)
 generalize hw0 : World.alloc _ _ = w0
 obtain ⟨hb0, hB0, hs0⟩ := alloc1 hw0
 clear hw0
 have c0 := cellOf hb0 0
 have c1 := cellOf hb0 1
 have HX0 : Hid (MoBox w0 w.heap.size (.slice A m.opts.length cap) (.slice Ar m.rules.length capr)) := hb0
 have HB0 := hide hB0
 have hck := CheckModel_any m (.slice A m.opts.length cap) (.slice Ar m.rules.length capr) w0 HS.out (H.out.up hB0)
 have HCK := hide hck
 clear hb0 hB0 hs0 hck
 go_wp2_with (first | (go_at_call 89; refine HCK.out.mono ?_; rw [HM.out]; rintro e w1 ⟨rfl, hB1⟩; have hbx := box_to HX0.out hB1; have d0 := cellOf hbx 0; have d1 := cellOf hbx 1; have HB1 : Hid (Below w.heap.size w w1) := Below.to HB0.out hB1 (Nat.le_refl _); clear hbx hB1 c0 c1) | (go_at_call 119; refine (begin_ok m l _ _ _ _ HS.out HL.out (H.out.up HB1.out) (HF.out.up HB1.out) HE.out hN).mono ?_; rintro e w2 ⟨F, n, rfl, r1⟩; have R1 : Hid (BegR m w w2 F n) := r1.of HB1.out; clear r1 d0 d1))
 refine (all_beg R1.out hN R1.out.op h200 (by omega) HF.out (Mo.okF HE.out).2).mono ?_
 rintro e w3 ⟨g, F2, rfl, r2, r3, hg, r4⟩
 have R2 := hide r2
 have R4 := hide r4
 have R3 := hide r3
 have hn2 : n < F2.ks.length := Nat.lt_of_lt_of_le R1.out.lt r3.st.le
 clear r2 r3 r4
 go_wp2_with fail
 refine (and_beg (l := [n, g]) R1.out hN R2.out (by omega) (by simp) (by intro x hx; simp at hx; rcases hx with rfl | rfl <;> assumption)).mono ?_
 rintro e w4 ⟨x, F3, rfl, r5, r6, hx, r7⟩
 have hN3 : F3.N = m.opts.length := r5.st.N.trans R1.out.N
 have hsat : sat F3.ks F3.N x [] = meeL m l := satM_node (p := fun v => allF v l) hN3 (fun v => by rw [r7 v, List.all_cons, List.all_cons, List.all_nil, R4.out v, R3.out.st.ev R1.out.here.wf R1.out.lt, R1.out.ev v, Bool.and_true])
 have hfi := firstN_any F3 x w4 r5.st.here hx (by omega)
 rw [r5.st.p] at hfi
 have hno := node_no r5.st.here hx
 rw [hsat] at hno
 have hx1 : ((x : Int) != 0) = !(meeL m l).isEmpty := by
  rw [← hno]
  by_cases h0 : x = 0
  ·
   simp [h0]
  ·
   simp [h0]
 obtain ⟨b, hb⟩ : ∃ b, (meeL m l).isEmpty = b := ⟨_, rfl⟩
 rw [hb] at hx1
 have HSAT := hide hsat
 have HFI := hide hfi
 have HLOW := hide (r5.low R1.out)
 have HB := hide hb
 clear r5 r6 r7 hN3 hsat hfi hno hb
 go_wp2_with fail
 refine HFI.out.mono ?_
 rintro e w5 ⟨v5, rfl, hv5, hB5⟩
 obtain ⟨A5, n5, cap5, hA5, _⟩ := hv5.form
 rw [HSAT.out] at hv5
 have HV5 := hide hv5
 have HB5 := hide hB5
 clear hA5 hv5 hB5
 go_wp2_with fail
 go_ret3
 exact ⟨v5, by rw [HB.out]; rfl, HV5.out, Below.to HLOW.out HB5.out (Nat.le_refl _)⟩
set_option maxRecDepth 100000 in
set_option maxHeartbeats 4000000 in
theorem Implies_n (m : Mo) (f g : List Int) (ov rv fv gv : Value) (w : World) (hs : SizedM m) (hl : f.length ≤ maxLen) (hl2 : g.length ≤ maxLen) (h : MoAt w w.heap.size ov rv m) (hf : Ints w w.heap.size fv f) (hg : Ints w w.heap.size gv g) (he : m.errF [f, g] = 0) (hN : m.opts.length ≤ 12) :
  Calls Tryz.prog 126 #[.agg #[ov, rv], fv, gv] w (MeeN (impL m f g).head? (impL m f g).isEmpty w) := by
 obtain ⟨A, cap, hov⟩ := Sl.form h.o
 obtain ⟨Ar, capr, hrv⟩ := h.r.form
 obtain ⟨Al, capl, hlv⟩ := Sl.form hf
 obtain ⟨Ag, capg, hgv⟩ := Sl.form hg
 have H := hide h
 have HF := hide hf
 have HG := hide hg
 subst hov hrv hlv hgv
 have hB2 : Below w.heap.size w ((w.alloc (.cells #[.slice A m.opts.length cap, .slice Ar m.rules.length capr] 25)).alloc (.cells #[.slice Al f.length capl, .slice Ag g.length capg] 46)) := zP
 have hbe := begin_ok m [f, g] (.slice A m.opts.length cap) (.slice Ar m.rules.length capr) (.slice (some ⟨w.heap.size + 1, 0, none⟩) 2 2) _ hs (sized_two hl hl2) (h.up hB2) (forms_two (heap_new _ _ _ (by simp)) (by simp) (hf.up hB2) (hg.up hB2)) he hN
 have HBE := hide hbe
 have HE := hide he
 have HOK := hide (Mo.okF he)
 clear h hf hg he hbe hB2
 go_enter Tryz.func126, Tryz.ntmps126
 go_wp2_with (go_at_call 119; refine HBE.out.mono ?_; rintro e w1 ⟨F, n, rfl, r1⟩; have R1 : Hid (BegR m w w1 F n) := r1.of zP; clear r1)
 refine (grow_beg R1.out hN R1.out.op (by omega) HF.out (HOK.out.2 f (by simp))).mono ?_
 rintro e w2 ⟨a, F2, rfl, r2, r3, ha, r4⟩
 have R2 := hide r2
 have R3 := hide r3
 have R4 := hide r4
 clear r2 r3 r4
 go_wp2_with fail
 refine (grow_beg R1.out hN R2.out (by omega) HG.out (HOK.out.2 g (by simp))).mono ?_
 rintro e w3 ⟨b, F3, rfl, r5, r6, hb, r7⟩
 have R5 := hide r5
 have R6 := hide r6
 have R7 := hide r7
 clear r5 r6 r7
 go_wp2_with fail
 refine (not_beg R1.out hN R5.out (by omega) hb).mono ?_
 rintro e w4 ⟨c, F4, rfl, r8, r9, hc, r10⟩
 have R8 := hide r8
 have hev4 : ∀ v, ev F4.ks v n = allF v m.rules ∧ ev F4.ks v a = evF1 v f ∧ ev F4.ks v c = !evF1 v g := fun v => by
  have hn2 := Nat.lt_of_lt_of_le R1.out.lt R3.out.st.le
  have hn3 := Nat.lt_of_lt_of_le hn2 R6.out.st.le
  have ha3 := Nat.lt_of_lt_of_le ha R6.out.st.le
  refine ⟨?_, ?_, ?_⟩
  ·
   rw [r9.st.ev R5.out.st.here.wf hn3, R6.out.st.ev R2.out.st.here.wf hn2, R3.out.st.ev R1.out.here.wf R1.out.lt, R1.out.ev v]
  ·
   rw [r9.st.ev R5.out.st.here.wf ha3, R6.out.st.ev R2.out.st.here.wf ha, R4.out v]
  ·
   rw [r10 v, R7.out v]
 have HEV := hide hev4
 have hn4 : n < F4.ks.length := Nat.lt_of_lt_of_le (Nat.lt_of_lt_of_le (Nat.lt_of_lt_of_le R1.out.lt R3.out.st.le) R6.out.st.le) r9.st.le
 have ha4 : a < F4.ks.length := Nat.lt_of_lt_of_le (Nat.lt_of_lt_of_le ha R6.out.st.le) r9.st.le
 clear r8 r9 r10 hev4
 go_wp2_with fail
 refine (and_beg (l := [n, a, c]) R1.out hN R8.out (by omega) (by simp) (by intro x hx; simp at hx; rcases hx with rfl | rfl | rfl <;> assumption)).mono ?_
 rintro e w5 ⟨x, F5, rfl, r11, _, hx, r12⟩
 have hN3 : F5.N = m.opts.length := r11.st.N.trans R1.out.N
 have hsat : sat F5.ks F5.N x [] = impL m f g := satM_node (p := fun v => evF1 v f && !evF1 v g) hN3 (fun v => by rw [r12 v, List.all_cons, List.all_cons, List.all_cons, List.all_nil, (HEV.out v).1, (HEV.out v).2.1, (HEV.out v).2.2, Bool.and_true])
 have hfi := firstN_any F5 x w5 r11.st.here hx (by omega)
 rw [r11.st.p] at hfi
 have hno := node_no r11.st.here hx
 rw [hsat] at hno
 have hx1 : ((x : Int) == 0) = (impL m f g).isEmpty := by
  rw [← hno]
  by_cases h0 : x = 0
  ·
   simp [h0]
  ·
   simp [h0]
 obtain ⟨y, hy⟩ : ∃ b, (impL m f g).isEmpty = b := ⟨_, rfl⟩
 rw [hy] at hx1
 have HSAT := hide hsat
 have HFI := hide hfi
 have HLOW := hide (r11.low R1.out)
 have HB := hide hy
 clear r11 r12 hN3 hsat hfi hno hy
 go_wp2_with fail
 refine HFI.out.mono ?_
 rintro e w6 ⟨v6, rfl, hv6, hB6⟩
 rw [HSAT.out] at hv6
 have HV6 := hide hv6
 have HB6 := hide hB6
 clear hv6 hB6
 go_wp2_with fail
 go_ret3
 exact ⟨v6, by rw [HB.out]; rfl, HV6.out, Below.to HLOW.out HB6.out (Nat.le_refl _)⟩
def MostN (m : Mo) (l : List (List Int)) (ws : List Int) (w : World) (e : Ending) (w' : World) : Prop :=
 ∃ v x, e = .returned (.tuple #[.int .i64 (bestF m l ws), v, .int .i64 0]) ∧ (exts m.opts.length []).find? (fun y => valF m l ws y == bestF m l ws) = some x ∧ x.length = m.opts.length ∧ OptV w' w'.heap.size v (some x) ∧ Below w.heap.size w w'
set_option maxRecDepth 100000 in
set_option maxHeartbeats 16000000 in
theorem Most_n (m : Mo) (l : List (List Int)) (ws : List Int) (ov rv lv wv : Value) (w : World) (hs : SizedM m) (hl : Sized l) (h : MoAt w w.heap.size ov rv m) (hf : Forms w w.heap.size lv l) (hws : Ints w w.heap.size wv ws) (he : m.errF l = 0) (hN : m.opts.length ≤ 12) (hl200 : l.length ≤ 200) (hlw : ws.length = l.length) (hw : ∀ x ∈ ws, -1000000 ≤ x ∧ x ≤ 1000000) (hsat : satM m (fun _ => true) ≠ []) :
  Calls Tryz.prog 125 #[.agg #[ov, rv], lv, wv] w (MostN m l ws w) := by
 have hmm := @run_makeMap Tryz.prog
 obtain ⟨i0, hi0, iz0, iz1, iz2⟩ := info_parts infoInt
 obtain ⟨i1, hi1, jz0, jz1, jz2⟩ := info_parts infoBool
 obtain ⟨A, cap, hov⟩ := Sl.form h.o
 obtain ⟨Ar, capr, hrv⟩ := h.r.form
 have H := hide h
 have HF := hide hf
 have HS := hide hs
 have HL := hide hl
 have HW := hide hw
 have HSAT := hide hsat
 have HOK := hide (Mo.okF he)
 have HE := hide he
 have HWS := hide hws
 have HLW : Hid (ws.length = l.length) := hlw
 obtain ⟨fvs, ⟨Al, bl, offl, capl, rfl, hncl, hAl, hcl⟩, hfi⟩ := hf
 obtain ⟨Aw, bw, offw, capw, rfl, hncw, hAw, hcw⟩ := hws
 have HAL := hide hAl
 have HCL := hide hcl
 have HFI := hide hfi
 have HAW := hide hAw
 have HCW := hide hcw
 have hz1 : ¬ (200 : Int) < (l.length : Int) := by omega
 have hz2 : ((ws.length : Int) != (l.length : Int)) = false := by rw [hlw]; simp
 have hz3 : (l.length : Int) ≤ 200 := by omega
 have hz4 : (ws.length : Int) ≤ 200 := by omega
 subst hov hrv
 clear h hs hl hw hsat he hlw hAl hcl hfi hAw hcw
 go_enter Tryz.func125, Tryz.ntmps125
 go_upto_region 1 with (fail)
 generalize hw0 : World.alloc _ _ = w0
 obtain ⟨hb0, hB0, hs0⟩ := alloc1 hw0
 clear hw0
 have c0 := cellOf hb0 0
 have c1 := cellOf hb0 1
 have HX0 : Hid (MoBox w0 w.heap.size (.slice A m.opts.length cap) (.slice Ar m.rules.length capr)) := hb0
 have HB0 := hide hB0
 have hck := CheckModel_any m (.slice A m.opts.length cap) (.slice Ar m.rules.length capr) w0 HS.out (H.out.up hB0)
 rw [HOK.out.1] at hck
 have HCK := hide hck
 clear hb0 hB0 hs0 hck
 go_wp2_with (go_at_call 89; refine HCK.out.mono ?_; rintro e w1 ⟨rfl, hB1⟩; have hbx := box_to HX0.out hB1; have d0 := cellOf hbx 0; have d1 := cellOf hbx 1; have HB1 : Hid (Below w.heap.size w w1) := Below.to HB0.out hB1 (Nat.le_refl _); clear hbx hB1 c0 c1)
 have hbe := begin_ok m l (.slice A m.opts.length cap) (.slice Ar m.rules.length capr) (.slice Al l.length capl) w1 HS.out HL.out (H.out.up HB1.out) (HF.out.up HB1.out) HE.out hN
 have HBE := hide hbe
 clear hbe
 refine HBE.out.mono ?_
 rintro e w2 ⟨F, n, rfl, r1⟩
 have R1 : Hid (BegR m w w2 F n) := r1.of HB1.out
 have hn0 : n ≠ 0 := by
  intro e
  subst e
  apply HSAT.out
  rw [← satM_node (ks := F.ks) (n := 0) r1.N (fun v => by rw [r1.ev v, Bool.and_true]), sat_zero]
 have hn1 : ((n : Int) == 0) = false := by simp; omega
 have hnl := r1.lt
 clear r1 hn0 d0 d1
 go_wp2_with fail
 go_loop [44] (fun i => ∃ k : Nat, k ≤ ws.length ∧ i = .int .i64 k) (fun i => ws.length - (intOf i).toNat)
 case atStart => exact ⟨0, Nat.zero_le _, rfl⟩
 case round =>
  obtain ⟨k, hk, rfl⟩ := hrel
  by_cases hkl : k < ws.length
  ·
   obtain ⟨rfl, hbb⟩ : Aw = some ⟨bw, offw, none⟩ ∧ bw < w.heap.size := by
    rcases HAW.out with h | h
    ·
     exact h
    ·
     omega
   obtain ⟨x, hx⟩ : ∃ x, ws.getD k 0 = x := ⟨_, rfl⟩
   have hxb := HW.out x (by rw [← hx]; exact getD_mem hkl)
   have c0 : w2.cell? ⟨bw, offw + k, none⟩ = some (.int .i64 x) := by
    have h1 := HCW.out k 0 hkl (by omega)
    rw [Nat.mul_one, Nat.add_zero, hx] at h1
    exact (R1.out.below.cell (p := ⟨bw, offw + k, none⟩) hbb).trans h1
   have hx1 : ¬ x < -1000000 := by omega
   have hx2 : ¬ (1000000 : Int) < x := by omega
   clear hx hxb
   go_wp2_with fail
   go_round
   case rel => exact ⟨k + 1, by omega, by go_num⟩
   case measure => simp [intOf]; omega
  ·
   clear hk
   go_wp2_with fail
   generalize hw0 : World.alloc _ _ = w3
   obtain ⟨hb0, hB0, hs0⟩ := alloc1 hw0
   clear hw0
   have HR3 : Hid (OpR 0 w2 F w3 F) := R1.out.op.then_below hB0
   have hst : Stk w2.heap.size w3 F (.slice (some ⟨w2.heap.size, 0, none⟩) 1 1) [n] := ⟨⟨rfl, .inr ⟨w2.heap.size, 1, _, rfl, Nat.le_refl _, hb0, Nat.le_refl _, by unfold maxLen; omega, rfl, rfl⟩⟩, fun b hb hsf => by
    have := R1.out.here.slt hsf
    simp [Value.ownBlock] at hb
    omega⟩
   have HST := hide hst
   have hB2 : Below w.heap.size w w2 := R1.out.below
   have HB2 := hide hB2
   have h2 := R1.out.here.wf.two
   clear hb0 hB0 hs0 hst hB2
   go_loopw [14, 61] (fun nv i wr => ∃ (k : Nat) (S : List Nat) (F1 : Fo), k ≤ l.length ∧ S.length = k + 1 ∧ i = .int .i64 k ∧ Hid (Stk w2.heap.size wr F1 nv S) ∧ Hid (OpR (100 * k) w2 F wr F1) ∧ Hid (∀ x ∈ S, x < F1.ks.length) ∧ Hid (∀ v, ev F1.ks v (S.getD 0 0) = allF v m.rules) ∧ Hid (∀ v i, i < k → ev F1.ks v (S.getD (i + 1) 0) = evF1 v (l.getD i []))) (fun _ i _ => l.length - (intOf i).toNat)
   case atStart => exact ⟨0, [n], F, Nat.zero_le _, rfl, rfl, HST.out, HR3.out, (fun x hx => by simp at hx; rw [hx]; exact hnl : ∀ x ∈ [n], x < F.ks.length), (fun v => by simpa using R1.out.ev v : ∀ v, ev F.ks v ([n].getD 0 0) = allF v m.rules), (fun v i hi => absurd hi (by omega) : ∀ v i, i < 0 → ev F.ks v ([n].getD (i + 1) 0) = evF1 v (l.getD i []))⟩
   case round =>
    obtain ⟨k, S, F1, hk, hSl, rfl, hS, hop, hSm, hev0, hevs⟩ := hrel
    have hbw := hop.out.low R1.out
    by_cases hkl : k < l.length
    ·
     obtain ⟨rfl, hbb⟩ : Al = some ⟨bl, offl, none⟩ ∧ bl < w.heap.size := by
      rcases HAL.out with h | h
      ·
       exact h
      ·
       omega
     obtain ⟨f, hfe⟩ : ∃ f, l.getD k [] = f := ⟨_, rfl⟩
     have hfm : f ∈ l := by rw [← hfe]; exact getD_mem hkl
     have hfv := HOK.out.2 f hfm
     have hin : Ints w w.heap.size (fvs k) f := by have := HFI.out k hkl; rwa [hfe] at this
     obtain ⟨Af, capf, hff⟩ := Sl.form hin
     have c0 : wr.cell? ⟨bl, offl + k, none⟩ = some (.slice Af f.length capf) := by
      have h1 := HCL.out k 0 hkl (by omega)
      rw [Nat.mul_one, Nat.add_zero, hff] at h1
      exact (hbw.cell (p := ⟨bl, offl + k, none⟩) hbb).trans h1
     obtain ⟨A1, cap1, rfl, hcap1, hcap2⟩ := hS.out.shape
     have hgr := grow_beg R1.out hN hop.out (by omega) hin hfv
     rw [hff] at hgr
     have HGR := hide hgr
     have HFE := hide hfe
     have HSL : Hid (S.length = k + 1) := hSl
     have hS300 : S.length ≤ 300 := by omega
     clear hbw hfe hfm hfv hin hff hgr hSl
     go_wp2_with (first | (go_at_call 192; refine HGR.out.mono ?_; rintro e w4 ⟨g, F2, rfl, r1, r2, hg, r4⟩; have R2 := hide r1; have R3 := hide r2; have R4 := hide r4; have hs4 := hS.out.step r2.st; have HS4 := hide hs4; have hsz4 := r1.st.keep.size; clear r1 r2 r4 hs4) | (at_builtin; go_must (refine wpList_append_own_at _ rfl (.tmp 65) (.tmp 69) _ rfl w2.heap.size 3 i0 _ 1 8 Tryz.underlying45 hi0 iz0 iz1 iz2 rfl (by omega) _ _ _ rfl (HS4.out.1.alloc _) ⟨w4.heap.size, 0, none⟩ 1 1 [.int .i64 (g : Nat)] rfl rfl (World.news_of_block (heap_alloc_new w4 _)) (by simp [Value.oneCell']) (by unfold maxLen; omega) (by omega) (by simp; omega) ?_); intro v1 w5 hown1 hg1 _ hat1; have HP := hide (HS4.out.push R2.out.st.here hown1 hg1 hat1); clear hown1 hg1 hat1))
     go_roundw
     case rel =>
      refine ⟨k + 1, S ++ [g], F2, by omega, by have := HSL.out; simp; omega, by go_num, HP.out.1, ?_, fun x hx => ?_, fun v => ?_, fun v i hi => ?_⟩
      ·
       exact (R2.out.mono (l := 100 * (k + 1)) (by omega)).own HP.out.2 (fun i hi => (HS4.out.1.lt i hi).1) (fun i hs hi => HS4.out.2 i hi hs)
      ·
       rcases List.mem_append.1 hx with h1 | h1
       ·
        have := hSm.out x h1
        have := R3.out.st.le
        omega
       ·
        rw [List.mem_singleton] at h1
        rw [h1]; exact hg
      ·
       have hS0 : 0 < S.length := by have := HSL.out; omega
       rw [List.getD_eq_getElem?_getD, List.getElem?_append_left hS0, ← List.getD_eq_getElem?_getD, R3.out.st.ev hop.out.st.here.wf (hSm.out _ (getD_mem hS0))]
       exact hev0.out v
      ·
       have hSk := HSL.out
       rcases Nat.lt_or_ge i k with h1 | h1
       ·
        have hSi : i + 1 < S.length := by omega
        rw [List.getD_eq_getElem?_getD, List.getElem?_append_left hSi, ← List.getD_eq_getElem?_getD, R3.out.st.ev hop.out.st.here.wf (hSm.out _ (getD_mem hSi))]
        exact hevs.out v i h1
       ·
        obtain rfl : i = k := by omega
        rw [List.getD_eq_getElem?_getD, List.getElem?_append_right (by omega), show i + 1 - S.length = 0 by omega]
        simp only [List.getElem?_cons_zero, Option.getD_some]
        rw [R4.out v, HFE.out]
     case measure => simp [intOf]; omega
    ·
     obtain rfl : k = l.length := by omega
     obtain ⟨A1, cap1, rfl, hcap1, hcap2⟩ := hS.out.shape
     obtain ⟨wo, hwo⟩ : ∃ wo : World, wo = wr := ⟨_, rfl⟩
     subst hwo
     have hN1 : F1.N = m.opts.length := hop.out.st.N.trans R1.out.N
     obtain ⟨s0, sr, hSe⟩ : ∃ s0 sr, S = s0 :: sr := by
      match S, hSl with
      | [], hSl => simp at hSl
      | s0 :: sr, _ => exact ⟨s0, sr, rfl⟩
     have hval : ∀ x, valI F1.ks (vf x) S ws = valF m l ws x := fun x => by
      have q0 := hev0.out (vf x)
      have q1 := hevs.out (vf x)
      subst hSe
      simp only [List.getD_cons_zero, List.getD_cons_succ] at q0 q1
      have q2 : sr.length = l.length := by simpa using hSl
      exact valI_valF q0 q2 (fun i hi => q1 i (by omega))
     have hbest : bestK F1.ks F1.N S ws [] = bestF m l ws := by
      unfold bestK bestF
      rw [hN1]
      congr 1
      exact List.map_congr_left fun x _ => hval x
     have hbig := bestF_big (m := m) HW.out (show l.length ≤ 1000 by omega) HSAT.out
     have hbd := bestK_bd (ks := F1.ks) (N := F1.N) (nodes := S) HW.out (show S.length ≤ 1000 by omega) []
     obtain ⟨M, hM⟩ : ∃ M, bestF m l ws = M := ⟨_, rfl⟩
     rw [hM] at hbest hbig
     rw [hbest] at hbd
     have HVAL := hide hval
     have HBEST := hide hbest
     have HBIG := hide hbig
     have HM := hide hM
     have HN1 := hide hN1
     have HSL : Hid (S.length = l.length + 1) := hSl
     have hnods : Nods wo wo.heap.size (.slice A1 S.length cap1) S := Nods.of_own hS.out.1
     have HNODS := hide hnods
     have HBW := hide hbw
     have hslt : ∀ b, SF F1 b → b < wo.heap.size := fun b hb => hop.out.st.here.slt hb
     have HSLT := hide hslt
     have hS300 : S.length ≤ 300 := by omega
     obtain ⟨hbd1, hbd2⟩ := hbd
     unfold leastI at hbd1
     clear hk hval hbest hbig hM hN1 hSl hnods hbw hslt hSe
     go_wp2_with fail
     generalize hw4 : World.alloc _ _ = w4
     obtain ⟨hb0, hb1, hB4, hs4⟩ := alloc2 hw4
     clear hw4
     have hwg : WgAt w4 F1 (wo.heap.size + 1) (.slice Aw ws.length capw) ws wo.heap.size 0 (fun _ => none) :=
      ⟨by rw [hop.out.st.p]; exact hb1, hop.out.st.here.below hB4, Sl.more (Ints.below HWS.out (Below.to HBW.out hB4 (Nat.le_refl _))) (by have := HBW.out.size; omega), ⟨.map [], ⟨#[], 0, hb0, ⟨by simp, MapKept.stamped_empty 0, by simp⟩, Nat.le_refl _, rfl⟩, fun a l _ => ⟨fun _ => rfl, fun x h => (by cases h)⟩⟩, fun a x h => (by cases h), fun e => by have := HSLT.out _ e; omega⟩
     have hp13 : 2 ^ (F1.N + 1) ≤ 2 ^ 13 := Nat.pow_le_pow_right (by omega) (by rw [HN1.out]; omega)
     have hbt := best_any F1 (wo.heap.size + 1) _ ws wo.heap.size HW.out (by omega) F1.N S _ w4 (fun _ => none) 0 hwg (by have := HSL.out; have := HLW.out; omega) hSm.out (by omega) (HNODS.out.up hB4) (by omega)
     rw [HBEST.out] at hbt
     have HBT := hide hbt
     have HP13 := hide hp13
     have HB4 : Hid (Below w.heap.size w w4) := Below.to HBW.out hB4 (Nat.le_refl _)
     have HS4 : Hid (wo.heap.size + 2 = w4.heap.size) := hs4.symm
     have HN4 : Hid (Nods w4 w4.heap.size (.slice A1 S.length cap1) S) := HNODS.out.up hB4
     have HWG4 := hide hwg
     clear hb0 hb1 hB4 hs4 hwg hp13 hbt
     refine HBT.out.mono ?_
     rintro e w5 ⟨m5, cnt5, rfl, r5⟩
     have R5 := hide r5
     have d0 := r5.here.fo.cellN
     rw [hop.out.st.p] at d0
     have hB5 : Below w.heap.size w w5 := HB4.out.trans (r5.keep.below (by have := HB4.out.size; omega) (fun k hk => by have := HBW.out.size; omega))
     have HB5 := hide hB5
     have HN5 : Hid (Nods w5 w5.heap.size (.slice A1 S.length cap1) S) := Sl.more (Sl.keep HN4.out (r5.cells HWG4.out)) r5.keep.size
     have hN13 : F1.N ≤ 12 := by rw [HN1.out]; exact hN
     have hmk : ∀ W : World, (Instr.makeSlice 35 (.int .i64 F1.N) (.int .i64 F1.N)).run Tryz.prog W = .ok (.slice (some ⟨W.heap.size, 0, none⟩) F1.N F1.N) (W.alloc (.cells (madeCells #[.bool false] (F1.N * 1)) 4)) := fun W => by
      have h1 := run_make (P := Tryz.prog) W 35 4 i1 (.bool false) Tryz.underlying35 hi1 jz0 .i64 .i64 F1.N F1.N (by omega) (Int.le_refl _) (by rw [jz2]; omega) (by omega)
      rw [jz1] at h1
      simpa [Value.cells] using h1
     clear r5 hB5
     go_wp2_with fail
     generalize hw0 : World.alloc _ _ = w6
     obtain ⟨hb0, hB0, hs0⟩ := alloc1 hw0
     clear hw0
     have hva : VarAt w6 w5.heap.size F1.N [] := by
      unfold VarAt
      rw [hb0, made_bools]
      rfl
     have HVA := hide hva
     have HB6 : Hid (Below w.heap.size w w6) := Below.to HB5.out hB0 (Nat.le_refl _)
     have HWG6 := hide (R5.out.here.below hB0)
     have HN6 : Hid (Nods w6 w6.heap.size (.slice A1 S.length cap1) S) := HN5.out.up hB0
     have hsz5 : wo.heap.size + 2 ≤ w5.heap.size := by have := R5.out.keep.size; have := HS4.out; omega
     have hcnt5 := R5.out.cnt
     clear hb0 hB0 hs0 hva hmk d0
     go_loopw [14, 87] (fun nv i wq => ∃ (k : Nat) (ls : List Bool) (ns : List Nat) (cnt : Nat) (mm : SmL → Option Int), k ≤ F1.N ∧ ls.length = k ∧ i = .int .i64 k ∧ Hid (Pick F1.ks F1.N ws S M ls ns) ∧ Hid (WgAt wq F1 (wo.heap.size + 1) (.slice Aw ws.length capw) ws wo.heap.size cnt mm) ∧ cnt ≤ (k + 1) * 8192 ∧ Hid (Nods wq wq.heap.size nv ns) ∧ Hid (VarAt wq w5.heap.size F1.N ls) ∧ Hid (Below w.heap.size w wq)) (fun _ i _ => F1.N - (intOf i).toNat)
     case atStart => exact ⟨0, [], S, cnt5, m5, Nat.zero_le _, rfl, rfl, Pick.start hSm.out HBEST.out, HWG6.out, by have := HP13.out; omega, HN6.out, HVA.out, HB6.out⟩
     case round =>
      obtain ⟨k, ls, ns, cnt, mm, hk, hls, rfl, hP, hWG, hcnt, hNn, hV, hBq⟩ := hrel
      obtain ⟨A7, cap7, hA7⟩ := Sl.form hNn.out
      subst hA7
      have hPl := hP.out.len
      have hsz : wo.heap.size + 2 ≤ w5.heap.size := hsz5
      have hvl : w5.heap.size < wr.heap.size := box_lt hV.out
      by_cases hkl : k < F1.N
      ·
       have hcq : cnt + 2 ^ (F1.N + 1) ≤ 1073741824 := by
        have h1 := HP13.out
        have h2 : (k + 1) * 8192 ≤ 13 * 8192 := Nat.mul_le_mul_right _ (by omega)
        omega
       have hlsN : ls.length < F1.N := by omega
       have hahead := hP.out.ahead hop.out.st.here.wf hlsN false
       rw [hls] at hahead
       obtain ⟨a, ha⟩ : ∃ a, bestK F1.ks F1.N S ws (ls ++ [false]) = a := ⟨_, rfl⟩
       obtain ⟨b, hb⟩ : ∃ b, decide (a < M) = b := ⟨_, rfl⟩
       rw [ha] at hahead
       have hnx := hP.out.next hop.out.st.here.wf hlsN HBIG.out (b := b) (by rw [ha, hb])
       rw [hls] at hnx
       have hsta := step_any F1 (wo.heap.size + 1) _ ws wo.heap.size cnt mm ns k false _ wr hWG.out (by omega) hP.out.lt hNn.out
       have HSTA := hide hsta
       have HAH := hide hahead
       have HNX := hide hnx
       have HCQ := hide hcq
       have HLS : Hid (ls.length = k) := hls
       have HPL : Hid (ns.length = S.length) := hPl
       have HCNT := hide hcnt
       have v0 : wr.cell? ⟨w5.heap.size, k, none⟩ = some (.bool false) := by rw [← hls]; exact hV.out.cell hlsN
       have j1 : (k : Int) < (F1.N : Int) := by omega
       clear hcq hlsN hahead ha hnx hsta hls hPl hcnt
       go_wp2_with fail
       refine HSTA.out.mono ?_
       rintro e w7 ⟨v7, rfl, hn7, hB7⟩
       obtain ⟨A8, cap8, rfl⟩ := Sl.form hn7
       rw [List.length_map] at hn7 ⊢
       have hwg7 := hWG.out.below hB7
       have hV7 := hV.out.below hB7
       have hbt := best_any F1 (wo.heap.size + 1) _ ws wo.heap.size HW.out (by omega) F1.N (ns.map fun n => brK F1.ks n k false) _ w7 mm cnt hwg7 (by rw [List.length_map]; have := HPL.out; have := HSL.out; have := HLW.out; omega) (fun n hn => by
        rw [List.mem_map] at hn
        obtain ⟨x, hx, rfl⟩ := hn
        exact brK_lt hop.out.st.here.wf (hP.out.lt x hx) hkl) (by omega) hn7 HCQ.out
       rw [HAH.out] at hbt
       have HBT7 := hide hbt
       have HB7 := hide hB7
       have HV7 := hide hV7
       have HWG7 := hide hwg7
       have HN7 : Hid (Nods w7 w7.heap.size (.slice A7 ns.length cap7) ns) := hNn.out.up hB7
       have HBq7 : Hid (Below w.heap.size w w7) := Below.to hBq.out hB7 (Nat.le_refl _)
       clear hn7 hwg7 hV7 hbt hB7
       go_wp2_with fail
       refine HBT7.out.mono ?_
       rintro e w8 ⟨m8, cnt8, rfl, r8⟩
       have hV8 : VarAt w8 w5.heap.size F1.N ls := (r8.keep.block _ (box_lt HV7.out) (by omega)).trans HV7.out
       have HV8 := hide hV8
       have R8 := hide r8
       have HN8 : Hid (Nods w8 w8.heap.size (.slice A7 ns.length cap7) ns) := Sl.more (Sl.keep HN7.out (r8.cells HWG7.out)) r8.keep.size
       have HB8 : Hid (Below w.heap.size w w8) := HBq7.out.trans (r8.keep.below (by have := HBq7.out.size; omega) (fun k hk => by have := HBW.out.size; omega))
       have x0 : w8.cell? ⟨w5.heap.size, k, none⟩ = some (.bool false) := by rw [← HLS.out]; exact hV8.cell (by rw [HLS.out]; exact hkl)
       have x1 : w8.frozen? ⟨w5.heap.size, k, none⟩ = false := unfrozenOf hV8 _
       clear r8 hV8 v0
       go_wp2_with fail
       generalize hw9 : World.setCell _ _ _ = w9
       have hV9 : VarAt w9 w5.heap.size F1.N (ls ++ [b]) := by
        rw [← hw9]
        have h1 := HV8.out.set (by rw [HLS.out]; exact hkl) b
        rw [HLS.out] at h1
        exact h1
       have hs9 : w9.heap.size = w8.heap.size := by rw [← hw9]; simp [World.setCell]
       have hB9 : Below w.heap.size w w9 := by
        rw [← hw9]
        exact HB8.out.setCell (show w.heap.size ≤ w5.heap.size from HB5.out.size) _
       have hN9 : Nods w9 w9.heap.size (.slice A7 ns.length cap7) ns := by
        rw [hs9, ← hw9]
        exact HN8.out.setBool HV8.out
       have hWG9 : WgAt w9 F1 (wo.heap.size + 1) (.slice Aw ws.length capw) ws wo.heap.size cnt8 m8 := by
        have hi9 : Ints w9 w9.heap.size (.slice Aw ws.length capw) ws := Sl.more (Ints.below HWS.out hB9) hB9.size
        rw [← hw9] at hi9 ⊢
        exact R8.out.here.setOther (show w5.heap.size ≠ wo.heap.size + 1 by omega) (show w5.heap.size ≠ wo.heap.size by omega) (fun e => by have := HSLT.out _ e; simp at this; omega) hi9
       have HV9 := hide hV9
       have HB9 := hide hB9
       clear hw9 hs9 hV9 hB9 x0 x1
       refine (step_any F1 (wo.heap.size + 1) _ ws wo.heap.size cnt8 m8 ns k b _ w9 hWG9 (by have := HPL.out; omega) hP.out.lt hN9).mono ?_
       rintro e w10 ⟨v10, rfl, hn10, hB10⟩
       obtain ⟨A10, cap10, hA10⟩ := Sl.form hn10
       subst hA10
       rw [List.length_map] at hn10 ⊢
       have HN10 := hide hn10
       have HWG10 := hide (hWG9.below hB10)
       have HV10 := hide (HV9.out.below hB10)
       have HB10 : Hid (Below w.heap.size w w10) := Below.to HB9.out hB10 (Nat.le_refl _)
       clear hn10 hB10 hWG9 hN9
       go_wp2_with fail
       go_roundw
       case rel =>
        exact ⟨k + 1, ls ++ [b], _, cnt8, m8, by omega, by simp [HLS.out], by go_num, HNX.out, HWG10.out, by have h1 := R8.out.cnt; have h2 := HP13.out; have h3 := HCNT.out; omega, HN10.out, HV10.out, HB10.out⟩
       case measure => simp [intOf]; omega
      ·
       obtain rfl : k = F1.N := by omega
       have hfin := hP.out.finish hls HBIG.out
       have hb := VarAt.bols (l := ls) (by rw [hls]; exact hV.out)
       rw [hls] at hb
       have HFIN := hide hfin
       have HBO := hide hb
       have HLS : Hid (ls.length = F1.N) := hls
       clear hfin hb hls hkl hk
       go_wp2_with fail
       go_ret3
       refine ⟨_, ls, ?_, ?_, ?_, ⟨⟨_, F1.N, by rw [HLS.out]⟩, HBO.out⟩, hBq.out⟩
       ·
        rw [HM.out]; rfl
       ·
        have h1 := HFIN.out
        rw [HN1.out] at h1
        rw [HM.out, ← h1]
        congr 1
        funext x
        rw [HVAL.out x]
       ·
        rw [HLS.out, HN1.out]
end Go.Proofs.YtehadoecnmfeoaaGreat

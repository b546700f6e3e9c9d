/- Part 27 of this claim's texts: walks and plain laws. -/
import Derived.Test.YtmabfnddedffoaaRows
import Derived.Test.YtmabfnddedffoaaGLO26
import Derived.Test.YtmabfnddedffoaaGLO24
import Derived.Deep.RegionHeld3
import Derived.Deep.DrawnRows
/- Whether formulas can be met; whether one implies another: walks. -/
namespace Go.Proofs.Ytmabfnddedffoaa
open Go.RowKit
set_option linter.unusedVariables false
set_option linter.unusedSimpArgs false
theorem all_beg {m : Mo} {w w1 w2 : World} {F F1 : Fo} {n k : Nat} {l : List (List Int)} {lv : Value} (h : BegR m w w1 F n) (hN : m.opts.length ≤ 12) (r : OpR k w1 F w2 F1) (hl : l.length ≤ 200) (hk : k + 102 * l.length ≤ 200000) (hf : Forms w w.heap.size lv l) (hv : ∀ f ∈ l, validF m.opts.length f = true) :
    Calls Try.prog 149 #[.pointer (some ⟨F.p, 0, none⟩), lv] w2
      fun e w' => ∃ g F', e = .returned (.int .i64 (g : Nat)) ∧ OpR (k + 102 * l.length) w1 F w' F' ∧ OpR (102 * l.length) w2 F1 w' F' ∧ g < F'.ks.length ∧ ∀ v, ev F'.ks v g = allF v l := by
  have hc := all_any F1 l lv w2 r.st.here (by rw [r.st.ba]; exact Nat.le_trans h.base2 r.st.keep.size) (by rw [r.st.N, h.N]; exact hv) (by
    rw [r.st.ba]
    exact (hf.below (r.low h)).more h.base) (by omega) ((h.room hN (k := k + 102 * l.length) hk |>.step r))
  rw [r.st.p] at hc
  refine hc.mono ?_
  rintro e w' ⟨g, F', rfl, r1, r2, r3⟩
  exact ⟨g, F', rfl, r.trans r1, r1, r2, r3⟩
/-- A variant (or none), whether so, and an error. -/
def MeeP (x : List Bool) (is : Bool) (er : Int) (w : World) (e : Ending) (w' : World) : Prop := ∃ v, e = .returned (.tuple #[v, .bool is, .int .i64 er]) ∧ Bols w' w'.heap.size v x ∧ Below w.heap.size w w'
/-- What Meets returns. -/
def meeL (m : Mo) (l : List (List Int)) : List (List Bool) := satM m fun v => allF v l
def meeX (m : Mo) (l : List (List Int)) : List Bool := if frmE m l = 0 then (meeL m l).head?.getD [] else []
def meeB (m : Mo) (l : List (List Int)) : Bool := if frmE m l = 0 then !(meeL m l).isEmpty else false
theorem mee_bad {m : Mo} {l : List (List Int)} (h : frmE m l ≠ 0) : meeX m l = [] ∧ meeB m l = false := by unfold meeX meeB; rw [if_neg h, if_neg h]; exact ⟨rfl, rfl⟩
theorem MeeP.bad {x : List Bool} {b : Bool} {er : Int} {w w' : World} (h : x = [] ∧ b = false) (hb : Below w.heap.size w w') : MeeP x b er w (.returned (.tuple #[.slice none 0 0, .bool false, .int .i64 er])) w' := by
  obtain ⟨rfl, rfl⟩ := h
  exact ⟨_, rfl, Sl.nil _ _ _ _, hb⟩
/-- What Implies returns. -/
def impL (m : Mo) (f g : List Int) : List (List Bool) := satM m fun v => evF1 v f && !evF1 v g
def impX (m : Mo) (f g : List Int) : List Bool := if m.errF [f, g] = 0 then (impL m f g).head?.getD [] else []
def impB (m : Mo) (f g : List Int) : Bool := if m.errF [f, g] = 0 then (impL m f g).isEmpty else false
theorem FirR.bols {F : Fo} {b : Nat} {w' : World} {x : List Bool} (hV : VarAt w' b F.N x) (hx : x.length = F.N) : Bols w' w'.heap.size (.slice (some ⟨b, 0, none⟩) F.N F.N) x := by
  have h1 := VarAt.bols (w := w') (b := b) (l := x) (by rw [hx]; exact hV)
  rw [hx] at h1
  exact h1
/-- first, in one: the variant that it gives. -/
def FstP (F : Fo) (n : Nat) (w : World) (e : Ending) (w' : World) : Prop := ∃ v, e = .returned v ∧ Bols w' w'.heap.size v ((sat F.ks F.N n []).head?.getD []) ∧ Below w.heap.size w w'
theorem first_any (F : Fo) (n : Nat) (w : World) (h : FoAt w F) (hn : n < F.ks.length) (hN : F.N ≤ 12) :
    Calls Try.prog 150 #[.pointer (some ⟨F.p, 0, none⟩), .int .i64 n] w (FstP F n w) := by
  by_cases h0 : n = 0
  · subst h0
    refine (firstNo_any F w).mono ?_
    rintro e w' ⟨rfl, rfl⟩
    refine ⟨_, rfl, ?_, Below.refl _ _⟩
    rw [sat_zero]
    exact Sl.nil _ _ _ _
  · refine (firstYes_any F n w h hn h0 hN).mono ?_
    rintro e w' ⟨x, rfl, h1, h2, h3, h4⟩
    refine ⟨_, rfl, ?_, h4⟩
    rw [h3]
    exact FirR.bols h1 h2
/-- Whether a node is no. -/
theorem node_no {F : Fo} {w : World} {n : Nat} (h : FoAt w F) (hn : n < F.ks.length) : decide (n = 0) = (sat F.ks F.N n []).isEmpty := by
  by_cases h0 : n = 0
  · rw [h0, sat_zero]; rfl
  · have h1 := sat_ne h.wf hn h0 (l := []) (Nat.zero_le _)
    rw [decide_eq_false h0]
    match sat F.ks F.N n [], h1 with
    | a :: r, _ => rfl
theorem forms_two {w : World} {b B : Nat} {fv gv : Value} {f g : List Int} {t : Nat} (hb : w.heap[b]? = some (.cells #[fv, gv] t (0, 0))) (hB : b < B) (h : Ints w B fv f) (h2 : Ints w B gv g) : Forms w B (.slice (some ⟨b, 0, none⟩) 2 2) [f, g] :=
  ⟨fun i => if i = 0 then fv else gv, ⟨_, b, 0, 2, rfl, Nat.le_refl _, .inl ⟨rfl, hB⟩, fun i j hi hj => by
    simp at hi
    obtain rfl : j = 0 := by omega
    rcases (by omega : i = 0 ∨ i = 1) with rfl | rfl
    · exact cellOf hb 0
    · exact cellOf hb 1⟩, fun i hi => by
    simp at hi
    rcases (by omega : i = 0 ∨ i = 1) with rfl | rfl
    · exact h
    · exact h2⟩
theorem sized_two {f g : List Int} (h : f.length ≤ maxLen) (h2 : g.length ≤ maxLen) : Sized [f, g] := ⟨by unfold maxLen; simp, fun x hg => by simp at hg; rcases hg with rfl | rfl <;> assumption⟩
set_option maxRecDepth 100000 in
set_option maxHeartbeats 4000000 in
theorem Meets_model (m : Mo) (l : List (List Int)) (ov rv lv : Value) (w : World) (hs : SizedM m) (hl : Sized l) (h : MoAt w w.heap.size ov rv m) (hf : Forms w w.heap.size lv l) (hm : m.err ≠ 0) :
    Calls Try.prog 122 #[.agg #[ov, rv], lv] w (MeeP (meeX m l) (meeB m l) (frmE m l) w) := by
  obtain ⟨A, cap, hov⟩ := Sl.form h.o
  obtain ⟨Ar, capr, hrv⟩ := h.r.form
  obtain ⟨Al, capl, hlv⟩ := hf.form
  have H := hide h
  have HF := hide hf
  have HS := hide hs
  have HL := hide hl
  subst hov hrv hlv
  have hee := frm_err (l := l) hm
  have hbad := mee_bad (l := l) (by rw [hee]; exact hm)
  obtain ⟨z, hz⟩ : ∃ z, m.err = z := ⟨_, rfl⟩
  rw [hz] at hm hee
  have hz1 : (z != 0) = true := by simpa using hm
  have HM := hide hz
  have HEE := hide hee
  have HBAD := hide hbad
  clear h hf hs hl hm hz hee hbad
  go_enter Try.func122, Try.ntmps122
  go_upto_region 1 with (fail)
  generalize hw0 : World.alloc _ _ = w0
  obtain ⟨hb0, hB0, hs0⟩ := alloc1 hw0
  clear hw0
  have c0 := cellOf hb0 0
  have c1 := cellOf hb0 1
  have HX0 : Hid (MoBox w0 w.heap.size (.slice A m.opts.length cap) (.slice Ar m.rules.length capr)) := hb0
  have HB0 := hide hB0
  have hck := CheckModel_any m (.slice A m.opts.length cap) (.slice Ar m.rules.length capr) w0 HS.out (H.out.up hB0)
  have HCK := hide hck
  clear hb0 hB0 hs0 hck
  go_wp2_with (go_at_call 52; refine HCK.out.mono ?_; rw [HM.out]; rintro e w1 ⟨rfl, hB1⟩; have hbx := box_to HX0.out hB1; have d0 := cellOf hbx 0; have d1 := cellOf hbx 1; have HB1 : Hid (Below w.heap.size w w1) := Below.to HB0.out hB1 (Nat.le_refl _); clear hbx hB1 c0 c1)
  go_ret3
  rw [HEE.out]
  exact MeeP.bad HBAD.out HB1.out
set_option maxRecDepth 100000 in
set_option maxHeartbeats 4000000 in
theorem Meets_many (m : Mo) (l : List (List Int)) (ov rv lv : Value) (w : World) (hs : SizedM m) (hl : Sized l) (h : MoAt w w.heap.size ov rv m) (hf : Forms w w.heap.size lv l) (hm : m.err = 0) (h200 : 200 < l.length) :
    Calls Try.prog 122 #[.agg #[ov, rv], lv] w (MeeP (meeX m l) (meeB m l) (frmE m l) w) := by
  obtain ⟨A, cap, hov⟩ := Sl.form h.o
  obtain ⟨Ar, capr, hrv⟩ := h.r.form
  obtain ⟨Al, capl, hlv⟩ := hf.form
  have H := hide h
  have HF := hide hf
  have HS := hide hs
  have HL := hide hl
  subst hov hrv hlv
  have hee := frm_many (l := l) hm h200
  have hbad := mee_bad (l := l) (by rw [hee]; omega)
  have hz1 : (200 : Int) < (l.length : Int) := by omega
  have HM := hide hm
  have HEE := hide hee
  have HBAD := hide hbad
  clear h hf hs hl hm hee h200 hbad
  go_enter Try.func122, Try.ntmps122
  go_upto_region 1 with (fail)
  generalize hw0 : World.alloc _ _ = w0
  obtain ⟨hb0, hB0, hs0⟩ := alloc1 hw0
  clear hw0
  have c0 := cellOf hb0 0
  have c1 := cellOf hb0 1
  have HX0 : Hid (MoBox w0 w.heap.size (.slice A m.opts.length cap) (.slice Ar m.rules.length capr)) := hb0
  have HB0 := hide hB0
  have hck := CheckModel_any m (.slice A m.opts.length cap) (.slice Ar m.rules.length capr) w0 HS.out (H.out.up hB0)
  have HCK := hide hck
  clear hb0 hB0 hs0 hck
  go_wp2_with (go_at_call 52; refine HCK.out.mono ?_; rw [HM.out]; rintro e w1 ⟨rfl, hB1⟩; have hbx := box_to HX0.out hB1; have d0 := cellOf hbx 0; have d1 := cellOf hbx 1; have HB1 : Hid (Below w.heap.size w w1) := Below.to HB0.out hB1 (Nat.le_refl _); clear hbx hB1 c0 c1)
  go_ret3
  rw [HEE.out]
  exact MeeP.bad HBAD.out HB1.out
set_option maxRecDepth 100000 in
set_option maxHeartbeats 4000000 in
theorem Meets_form (m : Mo) (l : List (List Int)) (ov rv lv : Value) (w : World) (hs : SizedM m) (hl : Sized l) (h : MoAt w w.heap.size ov rv m) (hf : Forms w w.heap.size lv l) (hm : m.err = 0) (h200 : l.length ≤ 200) (he : m.errF l ≠ 0) :
    Calls Try.prog 122 #[.agg #[ov, rv], lv] w (MeeP (meeX m l) (meeB m l) (frmE m l) w) := by
  obtain ⟨A, cap, hov⟩ := Sl.form h.o
  obtain ⟨Ar, capr, hrv⟩ := h.r.form
  obtain ⟨Al, capl, hlv⟩ := hf.form
  have H := hide h
  have HF := hide hf
  have HS := hide hs
  have HL := hide hl
  subst hov hrv hlv
  have hee := frm_rest (l := l) hm h200
  have hbad := mee_bad (l := l) (by rw [hee]; exact he)
  have hz1 : ¬ (200 : Int) < (l.length : Int) := by omega
  obtain ⟨z, hz⟩ : ∃ z, m.errF l = z := ⟨_, rfl⟩
  have HE0 := hide he
  rw [hz] at he hee
  have hz2 : (z != 0) = true := by simpa using he
  have HM := hide hm
  have HZ := hide hz
  have HEE := hide hee
  have HBAD := hide hbad
  clear h hf hs hl hm hee h200 he hz hbad
  go_enter Try.func122, Try.ntmps122
  go_upto_region 1 with (fail)
  generalize hw0 : World.alloc _ _ = w0
  obtain ⟨hb0, hB0, hs0⟩ := alloc1 hw0
  clear hw0
  have c0 := cellOf hb0 0
  have c1 := cellOf hb0 1
  have HX0 : Hid (MoBox w0 w.heap.size (.slice A m.opts.length cap) (.slice Ar m.rules.length capr)) := hb0
  have HB0 := hide hB0
  have hck := CheckModel_any m (.slice A m.opts.length cap) (.slice Ar m.rules.length capr) w0 HS.out (H.out.up hB0)
  have HCK := hide hck
  clear hb0 hB0 hs0 hck
  go_wp2_with (first | (go_at_call 52; refine HCK.out.mono ?_; rw [HM.out]; rintro e w1 ⟨rfl, hB1⟩; have hbx := box_to HX0.out hB1; have d0 := cellOf hbx 0; have d1 := cellOf hbx 1; have HB1 : Hid (Below w.heap.size w w1) := Below.to HB0.out hB1 (Nat.le_refl _); clear hbx hB1 c0 c1) | (go_at_call 147; refine (begin_err m l _ _ _ _ HS.out HL.out (H.out.up HB1.out) (HF.out.up HB1.out) HE0.out).mono ?_; rw [HZ.out]; rintro e w2 ⟨rfl, hB2⟩; have HB2 : Hid (Below w.heap.size w w2) := Below.to HB1.out hB2 (Nat.le_refl _); clear hB2))
  go_ret3
  rw [HEE.out]
  exact MeeP.bad HBAD.out HB2.out
set_option maxRecDepth 100000 in
set_option maxHeartbeats 4000000 in
theorem Meets_ok (m : Mo) (l : List (List Int)) (ov rv lv : Value) (w : World) (hs : SizedM m) (hl : Sized l) (h : MoAt w w.heap.size ov rv m) (hf : Forms w w.heap.size lv l) (he : m.errF l = 0) (hN : m.opts.length ≤ 12) (h200 : l.length ≤ 200) :
    Calls Try.prog 122 #[.agg #[ov, rv], lv] w (MeeP (meeX m l) (meeB m l) (frmE m l) w) := by
  obtain ⟨A, cap, hov⟩ := Sl.form h.o
  obtain ⟨Ar, capr, hrv⟩ := h.r.form
  obtain ⟨Al, capl, hlv⟩ := hf.form
  have H := hide h
  have HF := hide hf
  have HS := hide hs
  have HL := hide hl
  subst hov hrv hlv
  have hm := (Mo.okF he).1
  have hfr : frmE m l = 0 := by rw [frm_rest hm h200]; exact he
  have hz1 : ¬ (200 : Int) < (l.length : Int) := by omega
  have HE := hide he
  have HM := hide hm
  have HFR := hide hfr
  clear h hf hs hl hm he hfr
  go_enter Try.func122, Try.ntmps122
  go_upto_region 1 with (fail)
  generalize hw0 : World.alloc _ _ = w0
  obtain ⟨hb0, hB0, hs0⟩ := alloc1 hw0
  clear hw0
  have c0 := cellOf hb0 0
  have c1 := cellOf hb0 1
  have HX0 : Hid (MoBox w0 w.heap.size (.slice A m.opts.length cap) (.slice Ar m.rules.length capr)) := hb0
  have HB0 := hide hB0
  have hck := CheckModel_any m (.slice A m.opts.length cap) (.slice Ar m.rules.length capr) w0 HS.out (H.out.up hB0)
  have HCK := hide hck
  clear hb0 hB0 hs0 hck
  go_wp2_with (first | (go_at_call 52; refine HCK.out.mono ?_; rw [HM.out]; rintro e w1 ⟨rfl, hB1⟩; have hbx := box_to HX0.out hB1; have d0 := cellOf hbx 0; have d1 := cellOf hbx 1; have HB1 : Hid (Below w.heap.size w w1) := Below.to HB0.out hB1 (Nat.le_refl _); clear hbx hB1 c0 c1) | (go_at_call 147; refine (begin_ok m l _ _ _ _ HS.out HL.out (H.out.up HB1.out) (HF.out.up HB1.out) HE.out hN).mono ?_; rintro e w2 ⟨F, n, rfl, r1⟩; have R1 : Hid (BegR m w w2 F n) := r1.of HB1.out; clear r1 d0 d1))
  refine (all_beg R1.out hN R1.out.op h200 (by omega) HF.out (Mo.okF HE.out).2).mono ?_
  rintro e w3 ⟨g, F2, rfl, r2, r3, hg, r4⟩
  have R2 := hide r2
  have R4 := hide r4
  have R3 := hide r3
  have hn2 : n < F2.ks.length := Nat.lt_of_lt_of_le R1.out.lt r3.st.le
  clear r2 r3 r4
  go_wp2_with fail
  refine (and_beg (l := [n, g]) R1.out hN R2.out (by omega) (by simp) (by intro x hx; simp at hx; rcases hx with rfl | rfl <;> assumption)).mono ?_
  rintro e w4 ⟨x, F3, rfl, r5, r6, hx, r7⟩
  have hN3 : F3.N = m.opts.length := r5.st.N.trans R1.out.N
  have hsat : sat F3.ks F3.N x [] = meeL m l := satM_node (p := fun v => allF v l) hN3 (fun v => by rw [r7 v, List.all_cons, List.all_cons, List.all_nil, R4.out v, R3.out.st.ev R1.out.here.wf R1.out.lt, R1.out.ev v, Bool.and_true])
  have hfi := first_any F3 x w4 r5.st.here hx (by omega)
  rw [r5.st.p] at hfi
  have hno := node_no r5.st.here hx
  rw [hsat] at hno
  have hx1 : ((x : Int) != 0) = !(meeL m l).isEmpty := by
    rw [← hno]
    by_cases h0 : x = 0
    · simp [h0]
    · simp [h0]
  obtain ⟨b, hb⟩ : ∃ b, (meeL m l).isEmpty = b := ⟨_, rfl⟩
  rw [hb] at hx1
  have HSAT := hide hsat
  have HFI := hide hfi
  have HLOW := hide (r5.low R1.out)
  have HB := hide hb
  clear r5 r6 r7 hN3 hsat hfi hno hb
  go_wp2_with fail
  refine HFI.out.mono ?_
  rintro e w5 ⟨v5, rfl, hv5, hB5⟩
  obtain ⟨A5, cap5, hA5⟩ := Sl.form hv5
  rw [HSAT.out] at hv5
  have HV5 := hide hv5
  have HB5 := hide hB5
  clear hA5 hv5 hB5
  go_wp2_with fail
  go_ret3
  rw [HFR.out]
  refine ⟨v5, ?_, ?_, Below.to HLOW.out HB5.out (Nat.le_refl _)⟩
  · unfold meeB
    rw [HFR.out, if_pos rfl, HB.out]
    rfl
  · unfold meeX
    rw [HFR.out, if_pos rfl]
    exact HV5.out
theorem Meets_any (m : Mo) (l : List (List Int)) (ov rv lv : Value) (w : World) (hs : SizedM m) (hl : Sized l) (h : MoAt w w.heap.size ov rv m) (hf : Forms w w.heap.size lv l) (hN : m.err = 0 → m.opts.length ≤ 12) :
    Calls Try.prog 122 #[.agg #[ov, rv], lv] w (MeeP (meeX m l) (meeB m l) (frmE m l) w) := by
  by_cases hm : m.err = 0
  · by_cases h200 : l.length ≤ 200
    · by_cases he : m.errF l = 0
      · exact Meets_ok m l ov rv lv w hs hl h hf he (hN hm) h200
      · exact Meets_form m l ov rv lv w hs hl h hf hm h200 he
    · exact Meets_many m l ov rv lv w hs hl h hf hm (by omega)
  · exact Meets_model m l ov rv lv w hs hl h hf hm
end Go.Proofs.Ytmabfnddedffoaa
/- The rules because of which no variant meets a formula. Plain laws. -/
namespace Go.Proofs.Ytmabfnddedffoaa
set_option linter.unusedVariables false
/-- Some rules of a model, by number. -/
def rulesAt (m : Mo) (K : List Nat) : List (List Int) := K.map fun k => m.rules.getD k []
/-- The variants in which a formula, some rules, and those from one on hold. -/
def corS (m : Mo) (f : List Int) (K : List Nat) (j : Nat) : List (List Bool) := (exts m.opts.length []).filter fun x => evF1 (vf x) f && (allF (vf x) (rulesAt m K) && allF (vf x) (m.rules.drop j))
/-- Those of the first i rules that are left. -/
def kept (m : Mo) (f : List Int) : Nat → List Nat
  | 0 => []
  | i + 1 => if (corS m f (kept m f i) (i + 1)).isEmpty then kept m f i else kept m f i ++ [i]
/-- A model with some of the rules. -/
def fewM (m : Mo) (K : List Nat) : Mo := ⟨m.opts, rulesAt m K⟩
/-- What Core returns. -/
def corE (m : Mo) (f : List Int) : Int := if m.errF [f] ≠ 0 then m.errF [f] else if whereF (allM m) f ≠ [] then 1 else 0
def corL (m : Mo) (f : List Int) : List Nat := if corE m f = 0 then kept m f m.rules.length else []
end Go.Proofs.Ytmabfnddedffoaa
/- The rules because of which no variant meets a formula: walk. -/
namespace Go.Proofs.Ytmabfnddedffoaa
open Go.RowKit
set_option linter.unusedVariables false
set_option linter.unusedSimpArgs false
/-- A list of rules and an error. -/
def CorP (l : List Nat) (er : Int) (w : World) (e : Ending) (w' : World) : Prop := ∃ v, e = .returned (.tuple #[v, .int .i64 er]) ∧ Nods w' w'.heap.size v l ∧ Below w.heap.size w w'
theorem CorP.none (er : Int) {w w' : World} (h : Below w.heap.size w w') : CorP [] er w (.returned (.tuple #[.slice none 0 0, .int .i64 er])) w' := ⟨_, rfl, Sl.nil _ _ _ _, h⟩
/-- What a slice from k on gives. -/
def slcV (A : Option Addr) (n cap k : Nat) : Value := sliced A k n cap 1
theorem Forms.drop {w : World} {B n cap : Nat} {A : Option Addr} {l : List (List Int)} {k : Nat} (h : Forms w B (.slice A n cap) l) (hk : k ≤ l.length) : Forms w B (slcV A n cap k) (l.drop k) := by
  obtain ⟨fv, ⟨A1, b1, off1, cap1, hv, hn, hA, hc⟩, h2⟩ := h
  injection hv with e1 e2 e3
  subst e1 e2 e3
  unfold slcV sliced
  split
  · rename_i hck
    have h0 : l.drop k = [] := List.drop_eq_nil_of_le (by omega)
    rw [h0, show l.length - k = 0 by omega, show cap - k = 0 by omega]
    exact ⟨fun _ => undef, ⟨A, b1, off1, 0, rfl, Nat.le_refl _, .inr rfl, fun i j hi hj => by simp at hi⟩, fun i hi => by simp at hi⟩
  · refine ⟨fun i => fv (k + i), ⟨A.map (·.add (k * 1)), b1, off1 + k, cap - k, by rw [List.length_drop], by rw [List.length_drop]; omega, ?_, fun i j hi hj => ?_⟩, fun i hi => ?_⟩
    · rcases hA with ⟨hA, hb⟩ | hA
      · subst hA
        refine .inl ⟨?_, hb⟩
        simp only [Option.map_some, Nat.mul_one]
        congr 1
        unfold Addr.add
        split
        · rename_i h0; rw [h0]; rfl
        · rfl
      · exact .inr (by rw [List.length_drop]; omega)
    · rw [List.length_drop] at hi
      have := hc (k + i) j (by omega) hj
      rw [show off1 + k + (i * 1 + j) = off1 + ((k + i) * 1 + j) by omega]
      exact this
    · rw [List.length_drop] at hi
      have := h2 (k + i) (by omega)
      rw [show (l.drop k).getD i [] = l.getD (k + i) [] by simp [List.getD_eq_getElem?_getD]]
      exact this
/-- What holds of the forest between two rules of Core. -/
structure CorI (m : Mo) (f : List Int) (w1 : World) (F : Fo) (a k : Nat) (w2 : World) (F1 : Fo) : Prop where
  op : OpR k w1 F w2 F1
  lt : a < F1.ks.length
  ev : ∀ v, ev F1.ks v a = evF1 v f
theorem CorI.step {m : Mo} {f : List Int} {w1 : World} {F : Fo} {a k l : Nat} {w2 w3 : World} {F1 F2 : Fo} (h : CorI m f w1 F a k w2 F1) (r : OpR l w2 F1 w3 F2) : CorI m f w1 F a (k + l) w3 F2 :=
  ⟨h.op.trans r, Nat.lt_of_lt_of_le h.lt r.st.le, fun v => by rw [r.st.ev h.op.st.here.wf h.lt, h.ev v]⟩
end Go.Proofs.Ytmabfnddedffoaa
/- Core as the elder program has it: walk. -/
namespace Go.Proofs.Ytmabfnddedffoaa
open Go.RowKit
set_option linter.unusedVariables false
set_option linter.unusedSimpArgs false
/-- A list of numbers of the call's own, above block B. -/
def NStk (B : Nat) (w : World) (sv : Value) (S : List Nat) : Prop := w.ownsRow B 3 1 sv S.length (S.map fun (n : Nat) => Value.int .i64 n)
theorem NStk.nil (w : World) (B : Nat) : NStk B w (.slice none 0 0) [] := World.ownsRow_nil w B 3 1
theorem NStk.below {B : Nat} {w w' : World} {sv : Value} {S : List Nat} (h : NStk B w sv S) (hb : Below w.heap.size w w') : NStk B w' sv S := owns_below h hb
theorem NStk.same {B : Nat} {w w' : World} {sv : Value} {S : List Nat} (h : NStk B w sv S) (hs : ∀ b, sv.ownBlock = some b → w'.heap[b]? = w.heap[b]?) : NStk B w' sv S := ownsRow_same h hs
theorem NStk.shape {B : Nat} {w : World} {sv : Value} {S : List Nat} (h : NStk B w sv S) : ∃ A cap, sv = .slice A S.length cap ∧ S.length ≤ cap ∧ cap ≤ maxLen := by
  rcases h.2 with ⟨h1, h2⟩ | ⟨g, cap, cur, h1, _, _, h2, h3, _⟩
  · exact ⟨none, 0, by rw [h1, h2], by omega, by unfold maxLen; omega⟩
  · exact ⟨_, cap, h1, h2, h3⟩
theorem NStk.cells {B : Nat} {w : World} {A : Option Addr} {n cap : Nat} {S : List Nat} (h : NStk B w (.slice A n cap) S) (hn : 0 < S.length) : ∃ g, A = some ⟨g, 0, none⟩ ∧ g < w.heap.size ∧ B ≤ g ∧ ∀ i, i < S.length → w.cell? ⟨g, i, none⟩ = some (.int .i64 (S.getD i 0 : Nat)) := by
  obtain ⟨g, cap', hv, hgb, hl⟩ := World.ownsRow.form h hn
  injection hv with h1 h2 h3
  subst h1
  refine ⟨g, rfl, hl, hgb, fun i hi => ?_⟩
  have := World.ownsRow.cells (g := g) h rfl i (.int .i64 (S.getD i 0 : Nat)) (by simp [hi])
  have he : (⟨g, 0, none⟩ : Addr).add i = ⟨g, i, none⟩ := by
    unfold Addr.add
    split
    · rename_i h0; rw [h0]
    · rw [Nat.zero_add]
  rwa [he] at this
theorem NStk.push {B : Nat} {w1 : World} {S : List Nat} {v1 : Value} {m : Nat} (hown : w1.ownsRow B 3 1 v1 (S.length + 1) ((S.map fun (n : Nat) => Value.int .i64 n) ++ [.int .i64 (m : Nat)])) : NStk B w1 v1 (S ++ [m]) := by
  unfold NStk
  rw [List.length_append, List.map_append]
  exact hown
theorem NStk.base {B B' : Nat} {w : World} {sv : Value} {S : List Nat} (h : NStk B w sv S) (hB : B' ≤ B) : NStk B' w sv S := owns_base h hB
/-- Numbers but one. -/
def butN (i : Nat) (S : List Nat) : List Nat := S.filter fun k => !(k == i)
/-- Formulas of an elder world w, in a slice of the call's own. -/
structure OFs (w : World) (e B : Nat) (wr : World) (sv : Value) (L : List (List Int)) (vs : List Value) : Prop where
  len : vs.length = L.length
  own : wr.ownsRow B e 1 sv L.length vs
  row : ∀ i, i < L.length → Ints w w.heap.size (vs.getD i undef) (L.getD i [])
theorem OFs.nil (w : World) (e B : Nat) (wr : World) : OFs w e B wr (.slice none 0 0) [] [] := ⟨rfl, World.ownsRow_nil wr B e 1, fun i hi => by simp at hi⟩
theorem OFs.same {w : World} {e B : Nat} {wr wr' : World} {sv : Value} {L : List (List Int)} {vs : List Value} (h : OFs w e B wr sv L vs) (hs : ∀ b, sv.ownBlock = some b → wr'.heap[b]? = wr.heap[b]?) : OFs w e B wr' sv L vs := ⟨h.len, ownsRow_same h.own hs, h.row⟩
theorem OFs.push {w : World} {e B : Nat} {wr wr' : World} {sv v1 : Value} {L : List (List Int)} {vs : List Value} {l : List Int} {x : Value} (h : OFs w e B wr sv L vs) (hx : Ints w w.heap.size x l) (hown : wr'.ownsRow B e 1 v1 (L.length + 1) (vs ++ [x])) : OFs w e B wr' v1 (L ++ [l]) (vs ++ [x]) := by
  have hl := h.len
  refine ⟨by simp [hl], by rw [List.length_append]; exact hown, fun i hi => ?_⟩
  rw [getD_push, getD_push, hl]
  by_cases h1 : i < L.length
  · rw [if_pos h1, if_pos h1]
    exact h.row i h1
  · have : i = L.length := by simp at hi; omega
    rw [if_neg h1, if_pos this, if_neg h1, if_pos this]
    exact hx
theorem OFs.forms {w : World} {e B : Nat} {wr : World} {sv : Value} {L : List (List Int)} {vs : List Value} (h : OFs w e B wr sv L vs) (hb : Below w.heap.size w wr) : Forms wr wr.heap.size sv L := by
  refine ⟨fun i => vs.getD i undef, Sl.of_owns h.own fun i j hi hj => ?_, fun i hi => ((h.row i hi).below hb).more hb.size⟩
  obtain rfl : j = 0 := by omega
  have := h.len
  have hi2 : i < vs.length := by omega
  rw [Nat.mul_one, Nat.add_zero]
  simp [hi2]
theorem OFs.shape {w : World} {e B : Nat} {wr : World} {sv : Value} {L : List (List Int)} {vs : List Value} (h : OFs w e B wr sv L vs) : ∃ A cap, sv = .slice A L.length cap ∧ L.length ≤ cap ∧ cap ≤ maxLen := by
  rcases h.own.2 with ⟨h1, h2⟩ | ⟨g, cap, cur, h1, _, _, h2, h3, _⟩
  · exact ⟨none, 0, by rw [h1, h2], by omega, by unfold maxLen; omega⟩
  · exact ⟨_, cap, h1, h2, h3⟩
/-- The blocks that change when a rule is appended in a box. -/
def fewS (fb : Nat) (rv : Value) (k : Nat) : Prop := k = fb ∨ rv.ownBlock = some k
end Go.Proofs.Ytmabfnddedffoaa

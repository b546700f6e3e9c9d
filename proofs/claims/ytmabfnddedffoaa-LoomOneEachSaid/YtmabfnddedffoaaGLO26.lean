/- Part 26 of this claim's texts: walks and plain laws. -/
import Derived.Test.YtmabfnddedffoaaRows
import Derived.Test.YtmabfnddedffoaaGLO25
/- The greatest sum, with its errors: walk. -/
namespace Go.Proofs.Ytmabfnddedffoaa
open Go.RowKit
set_option linter.unusedVariables false
set_option linter.unusedSimpArgs false
set_option maxRecDepth 100000 in
set_option maxHeartbeats 4000000 in
theorem Most_model (m : Mo) (l : List (List Int)) (ws : List Int) (ov rv lv wv : Value) (w : World) (hs : SizedM m) (hl : Sized l) (h : MoAt w w.heap.size ov rv m) (hf : Forms w w.heap.size lv l) (hws : Ints w w.heap.size wv ws) (hwl : ws.length ≤ maxLen) (hm : m.err ≠ 0) :
    Calls Try.prog 138 #[.agg #[ov, rv], lv, wv] w (MosP (mosN m l ws) (mosX m l ws) (mosE m l ws) w) := by
  obtain ⟨A, cap, hov⟩ := Sl.form h.o
  obtain ⟨Ar, capr, hrv⟩ := h.r.form
  have H := hide h
  have HF := hide hf
  have HS := hide hs
  have HL := hide hl
  obtain ⟨Al, capl, hlv⟩ := hf.form
  obtain ⟨Aw, bw, offw, capw, rfl, hncw, hAw, hcw⟩ := hws
  have HAW := hide hAw
  have HCW := hide hcw
  subst hov hrv hlv
  unfold maxLen at hwl
  have hee := mos_frm (ws := ws) (l := l) (by rw [frm_err hm]; exact hm)
  rw [frm_err hm] at hee
  obtain ⟨z, hz⟩ : ∃ z, m.err = z := ⟨_, rfl⟩
  rw [hz] at hm hee
  have hz1 : (z != 0) = true := by simpa using hm
  have HM := hide hz
  have HEE := hide hee
  have HZ0 := hide hm
  clear h hf hs hl hAw hcw hm hz hee
  go_enter Try.func138, Try.ntmps138
  go_upto_region 1 with (fail)
  generalize hw0 : World.alloc _ _ = w0
  obtain ⟨hb0, hB0, hs0⟩ := alloc1 hw0
  clear hw0
  have c0 := cellOf hb0 0
  have c1 := cellOf hb0 1
  have HX0 : Hid (MoBox w0 w.heap.size (.slice A m.opts.length cap) (.slice Ar m.rules.length capr)) := hb0
  have HB0 := hide hB0
  have hck := CheckModel_any m (.slice A m.opts.length cap) (.slice Ar m.rules.length capr) w0 HS.out (H.out.up hB0)
  have HCK := hide hck
  clear hb0 hB0 hs0 hck
  go_wp2_with (go_at_call 52; refine HCK.out.mono ?_; rw [HM.out]; rintro e w1 ⟨rfl, hB1⟩; have hbx := box_to HX0.out hB1; have d0 := cellOf hbx 0; have d1 := cellOf hbx 1; have HB1 : Hid (Below w.heap.size w w1) := Below.to HB0.out hB1 (Nat.le_refl _); clear hbx hB1 c0 c1)
  go_ret3
  exact MosP.bad HEE.out HZ0.out HB1.out
set_option maxRecDepth 100000 in
set_option maxHeartbeats 4000000 in
theorem Most_many (m : Mo) (l : List (List Int)) (ws : List Int) (ov rv lv wv : Value) (w : World) (hs : SizedM m) (hl : Sized l) (h : MoAt w w.heap.size ov rv m) (hf : Forms w w.heap.size lv l) (hws : Ints w w.heap.size wv ws) (hwl : ws.length ≤ maxLen) (hm : m.err = 0) (h200 : 200 < l.length) :
    Calls Try.prog 138 #[.agg #[ov, rv], lv, wv] w (MosP (mosN m l ws) (mosX m l ws) (mosE m l ws) w) := by
  obtain ⟨A, cap, hov⟩ := Sl.form h.o
  obtain ⟨Ar, capr, hrv⟩ := h.r.form
  have H := hide h
  have HF := hide hf
  have HS := hide hs
  have HL := hide hl
  obtain ⟨Al, capl, hlv⟩ := hf.form
  obtain ⟨Aw, bw, offw, capw, rfl, hncw, hAw, hcw⟩ := hws
  have HAW := hide hAw
  have HCW := hide hcw
  subst hov hrv hlv
  unfold maxLen at hwl
  have hee := mos_frm (ws := ws) (l := l) (by rw [frm_many hm h200]; omega)
  rw [frm_many hm h200] at hee
  have hz1 : (200 : Int) < (l.length : Int) := by omega
  have HM := hide hm
  have HEE := hide hee
  clear h hf hs hl hAw hcw hm hee h200
  go_enter Try.func138, Try.ntmps138
  go_upto_region 1 with (fail)
  generalize hw0 : World.alloc _ _ = w0
  obtain ⟨hb0, hB0, hs0⟩ := alloc1 hw0
  clear hw0
  have c0 := cellOf hb0 0
  have c1 := cellOf hb0 1
  have HX0 : Hid (MoBox w0 w.heap.size (.slice A m.opts.length cap) (.slice Ar m.rules.length capr)) := hb0
  have HB0 := hide hB0
  have hck := CheckModel_any m (.slice A m.opts.length cap) (.slice Ar m.rules.length capr) w0 HS.out (H.out.up hB0)
  have HCK := hide hck
  clear hb0 hB0 hs0 hck
  go_wp2_with (go_at_call 52; refine HCK.out.mono ?_; rw [HM.out]; rintro e w1 ⟨rfl, hB1⟩; have hbx := box_to HX0.out hB1; have d0 := cellOf hbx 0; have d1 := cellOf hbx 1; have HB1 : Hid (Below w.heap.size w w1) := Below.to HB0.out hB1 (Nat.le_refl _); clear hbx hB1 c0 c1)
  go_ret3
  exact MosP.bad HEE.out (by omega) HB1.out
set_option maxRecDepth 100000 in
set_option maxHeartbeats 4000000 in
theorem Most_form (m : Mo) (l : List (List Int)) (ws : List Int) (ov rv lv wv : Value) (w : World) (hs : SizedM m) (hl : Sized l) (h : MoAt w w.heap.size ov rv m) (hf : Forms w w.heap.size lv l) (hws : Ints w w.heap.size wv ws) (hwl : ws.length ≤ maxLen) (hm : m.err = 0) (h200 : l.length ≤ 200) (he : m.errF l ≠ 0) :
    Calls Try.prog 138 #[.agg #[ov, rv], lv, wv] w (MosP (mosN m l ws) (mosX m l ws) (mosE m l ws) w) := by
  obtain ⟨A, cap, hov⟩ := Sl.form h.o
  obtain ⟨Ar, capr, hrv⟩ := h.r.form
  have H := hide h
  have HF := hide hf
  have HS := hide hs
  have HL := hide hl
  obtain ⟨Al, capl, hlv⟩ := hf.form
  obtain ⟨Aw, bw, offw, capw, rfl, hncw, hAw, hcw⟩ := hws
  have HAW := hide hAw
  have HCW := hide hcw
  subst hov hrv hlv
  unfold maxLen at hwl
  have hee := mos_frm (ws := ws) (l := l) (by rw [frm_rest hm h200]; exact he)
  rw [frm_rest hm h200] at hee
  have hz1 : ¬ (200 : Int) < (l.length : Int) := by omega
  obtain ⟨z, hz⟩ : ∃ z, m.errF l = z := ⟨_, rfl⟩
  have HE0 := hide he
  rw [hz] at he hee
  have hz2 : (z != 0) = true := by simpa using he
  have HM := hide hm
  have HZ := hide hz
  have HZ0 := hide he
  have HEE := hide hee
  clear h hf hs hl hAw hcw hm hee h200 he hz
  go_enter Try.func138, Try.ntmps138
  go_upto_region 1 with (fail)
  generalize hw0 : World.alloc _ _ = w0
  obtain ⟨hb0, hB0, hs0⟩ := alloc1 hw0
  clear hw0
  have c0 := cellOf hb0 0
  have c1 := cellOf hb0 1
  have HX0 : Hid (MoBox w0 w.heap.size (.slice A m.opts.length cap) (.slice Ar m.rules.length capr)) := hb0
  have HB0 := hide hB0
  have hck := CheckModel_any m (.slice A m.opts.length cap) (.slice Ar m.rules.length capr) w0 HS.out (H.out.up hB0)
  have HCK := hide hck
  clear hb0 hB0 hs0 hck
  go_wp2_with (first | (go_at_call 52; refine HCK.out.mono ?_; rw [HM.out]; rintro e w1 ⟨rfl, hB1⟩; have hbx := box_to HX0.out hB1; have d0 := cellOf hbx 0; have d1 := cellOf hbx 1; have HB1 : Hid (Below w.heap.size w w1) := Below.to HB0.out hB1 (Nat.le_refl _); clear hbx hB1 c0 c1) | (go_at_call 147; refine (begin_err m l _ _ _ _ HS.out HL.out (H.out.up HB1.out) (HF.out.up HB1.out) HE0.out).mono ?_; rw [HZ.out]; rintro e w2 ⟨rfl, hB2⟩; have HB2 : Hid (Below w.heap.size w w2) := Below.to HB1.out hB2 (Nat.le_refl _); clear hB2))
  go_ret3
  exact MosP.bad HEE.out HZ0.out HB2.out
set_option maxRecDepth 100000 in
set_option maxHeartbeats 4000000 in
theorem Most_arg (m : Mo) (l : List (List Int)) (ws : List Int) (ov rv lv wv : Value) (w : World) (hs : SizedM m) (hl : Sized l) (h : MoAt w w.heap.size ov rv m) (hf : Forms w w.heap.size lv l) (hws : Ints w w.heap.size wv ws) (hwl : ws.length ≤ maxLen) (he : m.errF l = 0) (hN : m.opts.length ≤ 12) (h200 : l.length ≤ 200) (hlw : ws.length ≠ l.length) :
    Calls Try.prog 138 #[.agg #[ov, rv], lv, wv] w (MosP (mosN m l ws) (mosX m l ws) (mosE m l ws) w) := by
  obtain ⟨A, cap, hov⟩ := Sl.form h.o
  obtain ⟨Ar, capr, hrv⟩ := h.r.form
  have H := hide h
  have HF := hide hf
  have HS := hide hs
  have HL := hide hl
  obtain ⟨Al, capl, hlv⟩ := hf.form
  obtain ⟨Aw, bw, offw, capw, rfl, hncw, hAw, hcw⟩ := hws
  have HAW := hide hAw
  have HCW := hide hcw
  subst hov hrv hlv
  unfold maxLen at hwl
  have hm := (Mo.okF he).1
  have hee := mos_arg (m := m) (ws := ws) (l := l) (by rw [frm_rest hm h200]; exact he) (.inl hlw)
  have hz1 : ¬ (200 : Int) < (l.length : Int) := by omega
  have hz2 : ((ws.length : Int) != (l.length : Int)) = true := by simp; omega
  have HE := hide he
  have HM := hide hm
  have HEE := hide hee
  clear h hf hs hl hAw hcw hm hee h200 he hlw
  go_enter Try.func138, Try.ntmps138
  go_upto_region 1 with (fail)
  generalize hw0 : World.alloc _ _ = w0
  obtain ⟨hb0, hB0, hs0⟩ := alloc1 hw0
  clear hw0
  have c0 := cellOf hb0 0
  have c1 := cellOf hb0 1
  have HX0 : Hid (MoBox w0 w.heap.size (.slice A m.opts.length cap) (.slice Ar m.rules.length capr)) := hb0
  have HB0 := hide hB0
  have hck := CheckModel_any m (.slice A m.opts.length cap) (.slice Ar m.rules.length capr) w0 HS.out (H.out.up hB0)
  have HCK := hide hck
  clear hb0 hB0 hs0 hck
  go_wp2_with (first | (go_at_call 52; refine HCK.out.mono ?_; rw [HM.out]; rintro e w1 ⟨rfl, hB1⟩; have hbx := box_to HX0.out hB1; have d0 := cellOf hbx 0; have d1 := cellOf hbx 1; have HB1 : Hid (Below w.heap.size w w1) := Below.to HB0.out hB1 (Nat.le_refl _); clear hbx hB1 c0 c1) | (go_at_call 147; refine (begin_ok m l _ _ _ _ HS.out HL.out (H.out.up HB1.out) (HF.out.up HB1.out) HE.out hN).mono ?_; rintro e w2 ⟨F, n, rfl, r1⟩; have R1 : Hid (BegR m w w2 F n) := r1.of HB1.out; clear r1 d0 d1))
  go_ret3
  exact MosP.bad HEE.out (by omega) R1.out.below
set_option maxRecDepth 100000 in
set_option maxHeartbeats 4000000 in
theorem Most_loop (m : Mo) (l : List (List Int)) (ws : List Int) (ov rv lv wv : Value) (w : World) (hs : SizedM m) (hl : Sized l) (h : MoAt w w.heap.size ov rv m) (hf : Forms w w.heap.size lv l) (hws : Ints w w.heap.size wv ws) (hwl : ws.length ≤ maxLen) (he : m.errF l = 0) (hN : m.opts.length ≤ 12) (h200 : l.length ≤ 200) (hlw : ws.length = l.length) (hno : wOk ws = true → allM m = []) :
    Calls Try.prog 138 #[.agg #[ov, rv], lv, wv] w (MosP (mosN m l ws) (mosX m l ws) (mosE m l ws) w) := by
  obtain ⟨A, cap, hov⟩ := Sl.form h.o
  obtain ⟨Ar, capr, hrv⟩ := h.r.form
  have H := hide h
  have HF := hide hf
  have HS := hide hs
  have HL := hide hl
  obtain ⟨Al, capl, hlv⟩ := hf.form
  obtain ⟨Aw, bw, offw, capw, rfl, hncw, hAw, hcw⟩ := hws
  have HAW := hide hAw
  have HCW := hide hcw
  subst hov hrv hlv
  unfold maxLen at hwl
  have hm := (Mo.okF he).1
  have hfr : frmE m l = 0 := by rw [frm_rest hm h200]; exact he
  have hz1 : ¬ (200 : Int) < (l.length : Int) := by omega
  have hz2 : ((ws.length : Int) != (l.length : Int)) = false := by rw [hlw]; simp
  have hz4 : (ws.length : Int) ≤ 200 := by omega
  have HE := hide he
  have HM := hide hm
  have HFR := hide hfr
  have HLW := hide hlw
  have HNO := hide hno
  clear h hf hs hl hAw hcw hm hfr h200 he hlw hno
  go_enter Try.func138, Try.ntmps138
  go_upto_region 1 with (fail)
  generalize hw0 : World.alloc _ _ = w0
  obtain ⟨hb0, hB0, hs0⟩ := alloc1 hw0
  clear hw0
  have c0 := cellOf hb0 0
  have c1 := cellOf hb0 1
  have HX0 : Hid (MoBox w0 w.heap.size (.slice A m.opts.length cap) (.slice Ar m.rules.length capr)) := hb0
  have HB0 := hide hB0
  have hck := CheckModel_any m (.slice A m.opts.length cap) (.slice Ar m.rules.length capr) w0 HS.out (H.out.up hB0)
  have HCK := hide hck
  clear hb0 hB0 hs0 hck
  go_wp2_with (first | (go_at_call 52; refine HCK.out.mono ?_; rw [HM.out]; rintro e w1 ⟨rfl, hB1⟩; have hbx := box_to HX0.out hB1; have d0 := cellOf hbx 0; have d1 := cellOf hbx 1; have HB1 : Hid (Below w.heap.size w w1) := Below.to HB0.out hB1 (Nat.le_refl _); clear hbx hB1 c0 c1) | (go_at_call 147; refine (begin_ok m l _ _ _ _ HS.out HL.out (H.out.up HB1.out) (HF.out.up HB1.out) HE.out hN).mono ?_; rintro e w2 ⟨F, n, rfl, r1⟩; have R1 : Hid (BegR m w w2 F n) := r1.of HB1.out; clear r1 d0 d1))
  go_loop [44] (fun i => ∃ k : Nat, k ≤ ws.length ∧ i = .int .i64 k ∧ Hid (∀ j, j < k → -1000000 ≤ ws.getD j 0 ∧ ws.getD j 0 ≤ 1000000)) (fun i => ws.length - (intOf i).toNat)
  case atStart => exact ⟨0, Nat.zero_le _, rfl, fun j hj => by omega⟩
  case round =>
    obtain ⟨k, hk, rfl, hall⟩ := hrel
    by_cases hkl : k < ws.length
    · obtain ⟨rfl, hbb⟩ : Aw = some ⟨bw, offw, none⟩ ∧ bw < w.heap.size := by
        rcases HAW.out with h | h
        · exact h
        · omega
      obtain ⟨x, hx⟩ : ∃ x, ws.getD k 0 = x := ⟨_, rfl⟩
      have c2 : w2.cell? ⟨bw, offw + k, none⟩ = some (.int .i64 x) := by
        have h1 := HCW.out k 0 hkl (by omega)
        rw [Nat.mul_one, Nat.add_zero, hx] at h1
        exact (R1.out.below.cell (p := ⟨bw, offw + k, none⟩) hbb).trans h1
      have j1 : (k : Int) < (ws.length : Int) := by omega
      have HX := hide hx
      clear hx
      by_cases h1 : x < -1000000
      · have hee := mos_arg HFR.out (l := l) (.inr (wOk_not hkl (by rw [HX.out]; omega)))
        have HEE := hide hee
        clear hee
        go_wp2_with fail
        go_ret3
        exact MosP.bad HEE.out (by omega) R1.out.below
      · by_cases h2 : 1000000 < x
        · have hee := mos_arg HFR.out (l := l) (.inr (wOk_not hkl (by rw [HX.out]; omega)))
          have HEE := hide hee
          clear hee
          go_wp2_with fail
          go_ret3
          exact MosP.bad HEE.out (by omega) R1.out.below
        · go_wp2_with fail
          go_round
          case rel => exact ⟨k + 1, by omega, by go_num, fun j hj => by
              rcases Nat.lt_or_ge j k with h | h
              · exact hall.out j h
              · rw [show j = k from by omega, HX.out]; omega⟩
          case measure => simp [intOf]; omega
    · have hwok := wOk_all (fun j hj => hall.out j (by omega))
      have hnone := HNO.out hwok
      have hee := mos_none HFR.out HLW.out hwok hnone
      have hn0 : n = 0 := by
        rcases Nat.eq_zero_or_pos n with h0 | h0
        · exact h0
        · exfalso
          refine sat_ne R1.out.here.wf R1.out.lt (l := []) (by omega) (Nat.zero_le _) ?_
          rw [satM_node (m := m) (p := fun _ => true) R1.out.N (fun v => by rw [R1.out.ev v, Bool.and_true]), satM_true]
          exact hnone
      have HEE := hide hee
      clear hwok hnone hee
      subst hn0
      go_wp2_with fail
      go_ret3
      exact MosP.bad HEE.out (by omega) R1.out.below
theorem Most_any (m : Mo) (l : List (List Int)) (ws : List Int) (ov rv lv wv : Value) (w : World) (hs : SizedM m) (hl : Sized l) (h : MoAt w w.heap.size ov rv m) (hf : Forms w w.heap.size lv l) (hws : Ints w w.heap.size wv ws) (hwl : ws.length ≤ maxLen) (hN : m.err = 0 → m.opts.length ≤ 12) :
    Calls Try.prog 138 #[.agg #[ov, rv], lv, wv] w (MosP (mosN m l ws) (mosX m l ws) (mosE m l ws) w) := by
  by_cases hm : m.err = 0
  · by_cases h200 : l.length ≤ 200
    · by_cases he : m.errF l = 0
      · by_cases hlw : ws.length = l.length
        · by_cases hno : wOk ws = true → allM m = []
          · exact Most_loop m l ws ov rv lv wv w hs hl h hf hws hwl he (hN hm) h200 hlw hno
          · have hw : wOk ws = true := by
              cases hw : wOk ws with
              | true => rfl
              | false => exact absurd (fun h => by simp [hw] at h) hno
            have ha : allM m ≠ [] := fun h => hno fun _ => h
            have hee := mos_ok (by rw [frm_rest hm h200]; exact he) hlw hw ha
            refine (Most_ok m l ws ov rv lv wv w hs hl h hf hws he (hN hm) h200 hlw (wOk_iff.1 hw) (by rw [satM_true]; exact ha)).mono ?_
            rintro e w' ⟨v, x, h1, h2, h3, h4, h5⟩
            have hx1 : mosX m l ws = x := by unfold mosX; rw [hee, if_pos rfl, h2]; rfl
            have hn1 : mosN m l ws = bestF m l ws := by unfold mosN; rw [hee, if_pos rfl]
            rw [hx1, hn1, hee]
            exact ⟨v, h1, h4, h5⟩
        · exact Most_arg m l ws ov rv lv wv w hs hl h hf hws hwl he (hN hm) h200 hlw
      · exact Most_form m l ws ov rv lv wv w hs hl h hf hws hwl hm h200 he
    · exact Most_many m l ws ov rv lv wv w hs hl h hf hws hwl hm (by omega)
  · exact Most_model m l ws ov rv lv wv w hs hl h hf hws hwl hm
end Go.Proofs.Ytmabfnddedffoaa
/- The order of variants. Plain laws. -/
namespace Go.Proofs.Ytmabfnddedffoaa
set_option linter.unusedVariables false
/-- Whether a variant comes before another one. -/
def befB : List Bool → List Bool → Bool
  | a :: x, b :: y => if a = b then befB x y else b
  | _, _ => false
end Go.Proofs.Ytmabfnddedffoaa
/- The first variant in which a node holds. Plain laws. -/
namespace Go.Proofs.Ytmabfnddedffoaa
set_option linter.unusedVariables false
structure HeadI (ks : List Kn) (N n : Nat) (l : List Bool) (m : Nat) : Prop where
  head : (sat ks N n []).head? = (sat ks N m l).head?
  ne : m ≠ 0
  lt : m < ks.length
  top : l.length ≤ topK ks m
theorem HeadI.start {ks : List Kn} {N n : Nat} (hn : n < ks.length) (h0 : n ≠ 0) : HeadI ks N n [] n := ⟨rfl, h0, hn, Nat.zero_le _⟩
theorem HeadI.next {ks : List Kn} {N n m : Nat} {l : List Bool} (hw : WF N ks) (h : HeadI ks N n l m) (hl : l.length < N) : HeadI ks N n (l ++ [decide (brK ks m l.length false = 0)]) (brK ks m l.length (decide (brK ks m l.length false = 0))) := by
  have hst := sat_step hw h.lt hl
  have hne := sat_ne hw h.lt h.ne h.top
  by_cases h0 : brK ks m l.length false = 0
  · have hd : decide (brK ks m l.length false = 0) = true := decide_eq_true h0
    rw [hd]
    rw [h0, sat_zero, List.nil_append] at hst
    refine ⟨h.head.trans (by rw [hst]), fun e => ?_, brK_lt hw h.lt hl, ?_⟩
    · rw [e, sat_zero] at hst
      exact hne hst
    · rw [List.length_append]; exact brK_top hw h.lt hl h.top
  · have hd : decide (brK ks m l.length false = 0) = false := decide_eq_false h0
    rw [hd]
    have hb := brK_lt hw (b := false) h.lt hl
    have htop : (l ++ [false]).length ≤ topK ks (brK ks m l.length false) := by rw [List.length_append]; exact brK_top hw h.lt hl h.top
    refine ⟨h.head.trans ?_, h0, hb, htop⟩
    rw [hst]
    have h5 := sat_ne hw hb h0 htop
    match sat ks N (brK ks m l.length false) (l ++ [false]), h5 with
    | [], h5 => exact absurd rfl h5
    | x :: r, _ => rfl
theorem HeadI.finish {ks : List Kn} {N n m : Nat} {l : List Bool} (hw : WF N ks) (h : HeadI ks N n l m) (hl : l.length = N) : (sat ks N n []).head? = some l := by
  have h1 : m = 1 := by
    rcases Nat.lt_or_ge m 2 with h2 | h2
    · have := h.ne; omega
    · have h3 := hw.opt m h2 h.lt
      have h4 := h.top
      omega
  rw [h.head, h1, sat_one, hl, Nat.sub_self]
  rfl
end Go.Proofs.Ytmabfnddedffoaa
/- The first variant in which a node holds: walk. -/
namespace Go.Proofs.Ytmabfnddedffoaa
open Go.RowKit
set_option linter.unusedVariables false
set_option linter.unusedSimpArgs false
set_option maxRecDepth 100000 in
theorem firstNo_any (F : Fo) (w : World) :
    Calls Try.prog 150 #[.pointer (some ⟨F.p, 0, none⟩), .int .i64 0] w fun e w' => e = .returned (.slice none 0 0) ∧ w = w' := by
  go_enter Try.func150, Try.ntmps150
  go_wp2_with fail
  go_ret
  exact ⟨rfl, rfl⟩
def FirR (F : Fo) (n : Nat) (w : World) (e : Ending) (w' : World) : Prop := ∃ x : List Bool, e = .returned (.slice (some ⟨w.heap.size, 0, none⟩) F.N F.N) ∧ VarAt w' w.heap.size F.N x ∧ x.length = F.N ∧ (sat F.ks F.N n []).head? = some x ∧ Below w.heap.size w w'
set_option maxRecDepth 100000 in
set_option maxHeartbeats 4000000 in
theorem firstYes_any (F : Fo) (n : Nat) (w : World) (h : FoAt w F) (hn : n < F.ks.length) (h0 : n ≠ 0) (hN : F.N ≤ 12) :
    Calls Try.prog 150 #[.pointer (some ⟨F.p, 0, none⟩), .int .i64 n] w (FirR F n w) := by
  obtain ⟨i1, hi1, jz0, jz1, jz2⟩ := info_parts infoBool
  have hmk : ∀ W : World, (Instr.makeSlice 38 (.int .i64 F.N) (.int .i64 F.N)).run Try.prog W = .ok (.slice (some ⟨W.heap.size, 0, none⟩) F.N F.N) (W.alloc (.cells (madeCells #[.bool false] (F.N * 1)) 4)) := fun W => by
    have h1 := run_make (P := Try.prog) W 38 4 i1 (.bool false) Try.underlying38 hi1 jz0 .i64 .i64 F.N F.N (by omega) (Int.le_refl _) (by rw [jz2]; omega) (by omega)
    rw [jz1] at h1
    simpa [Value.cells] using h1
  have d0 := h.cellN
  have h01 : ((n : Int) == 0) = false := by simp; omega
  have HS := hide (HeadI.start (N := F.N) hn h0)
  have H := hide h
  clear h hn h0
  go_enter Try.func150, Try.ntmps150
  go_wp2_with fail
  generalize hw0 : World.alloc _ _ = w0
  obtain ⟨hb0, hB0, hs0⟩ := alloc1 hw0
  clear hw0
  have hva : VarAt w0 w.heap.size F.N [] := by
    unfold VarAt
    rw [hb0, made_bools]
    rfl
  have HVA := hide hva
  have HB0 := hide hB0
  clear hb0 hB0 hs0 hva hmk
  go_loopw [1, 16] (fun nv i wr => ∃ (k : Nat) (l : List Bool) (m : Nat), k ≤ F.N ∧ l.length = k ∧ i = .int .i64 k ∧ nv = .int .i64 m ∧ Hid (HeadI F.ks F.N n l m) ∧ Hid (VarAt wr w.heap.size F.N l) ∧ Hid (Below w.heap.size w wr)) (fun _ i _ => F.N - (intOf i).toNat)
  case atStart => exact ⟨0, [], n, Nat.zero_le _, rfl, rfl, rfl, HS.out, HVA.out, HB0.out⟩
  case round =>
    obtain ⟨k, l, m, hk, hll, rfl, rfl, hI, hV, hB⟩ := hrel
    by_cases hlt : k < F.N
    · have hF := H.out.below hB.out
      have e0 := hF.cellN
      have hb1 := branch_any F m k false wr hF hI.out.lt
      have HF := hide hF
      have hnx := hI.out.next hF.wf (by omega)
      rw [hll] at hnx
      obtain ⟨c, hc⟩ : ∃ c, brK F.ks m k false = c := ⟨_, rfl⟩
      obtain ⟨b, hb⟩ : ∃ b, decide (c = 0) = b := ⟨_, rfl⟩
      rw [hc, hb] at hnx
      rw [hc] at hb1
      have hcb : ((c : Int) == 0) = b := by
        rw [← hb]
        by_cases h0 : c = 0
        · simp [h0]
        · simp [h0]
      have HB1 := hide hb1
      have HNX := hide hnx
      have HLL := hide hll
      have j0 : (k : Int) < (F.N : Int) := by omega
      have v0 : wr.cell? ⟨w.heap.size, k, none⟩ = some (.bool false) := by rw [← hll]; exact hV.out.cell (by omega)
      clear hF hb1 hnx hll hc hb
      go_wp2_with fail
      refine HB1.out.mono ?_
      rintro e w1 ⟨rfl, hB1⟩
      have hV1 := hV.out.below hB1
      have x0 : w1.cell? ⟨w.heap.size, k, none⟩ = some (.bool false) := by rw [← HLL.out]; exact hV1.cell (by rw [HLL.out]; exact hlt)
      have x1 : w1.frozen? ⟨w.heap.size, k, none⟩ = false := unfrozenOf hV1 _
      have HV1 := hide hV1
      have HB1' := hide hB1
      clear hV1 hB1 v0
      go_wp2_with fail
      generalize hw9 : World.setCell _ _ _ = w9
      have hV9 : VarAt w9 w.heap.size F.N (l ++ [b]) := by
        rw [← hw9]
        have h1 := HV1.out.set (by rw [HLL.out]; exact hlt) b
        rw [HLL.out] at h1
        exact h1
      have hB9 : Below w.heap.size w w9 := by
        rw [← hw9]
        exact (Below.to hB.out HB1'.out (Nat.le_refl _)).setCell (Nat.le_refl _) _
      have y0 : w9.cell? ⟨w.heap.size, k, none⟩ = some (.bool b) := by
        rw [cellOf hV9]
        have hk1 : k < (l ++ [b]).length := by simp [HLL.out]
        simp [List.getElem?_append, HLL.out]
      have hb2 := branch_any F m k b w9 (H.out.below hB9) hI.out.lt
      have HB2 := hide hb2
      have HV9 := hide hV9
      have HB9 := hide hB9
      clear hw9 hV9 hB9 x0 x1 hb2
      go_wp2_with fail
      refine HB2.out.mono ?_
      rintro e w10 ⟨rfl, hB10⟩
      have HB10 := hide hB10
      clear hB10 y0
      go_wp2_with fail
      go_roundw
      case rel => exact ⟨k + 1, l ++ [b], _, by omega, by simp [HLL.out], by go_num, rfl, HNX.out, HV9.out.below HB10.out, Below.to HB9.out HB10.out (Nat.le_refl _)⟩
      case measure => simp [intOf]; omega
    · obtain rfl : k = F.N := by omega
      have hfin := hI.out.finish H.out.wf hll
      have HFIN := hide hfin
      have HLL := hide hll
      clear hfin hll
      go_wp2_with fail
      go_ret
      exact ⟨l, rfl, hV.out, HLL.out, HFIN.out, hB.out⟩
end Go.Proofs.Ytmabfnddedffoaa

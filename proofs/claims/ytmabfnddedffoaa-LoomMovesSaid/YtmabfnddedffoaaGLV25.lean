/- Part 25 of this claim's texts: walks and plain laws. -/
import Derived.Test.YtmabfnddedffoaaRows
import Derived.Test.YtmabfnddedffoaaGLV24
import Derived.Deep.RegionHeld3
import Derived.Deep.DrawnRows
/- The greatest sum, with its errors: walk. -/
namespace Go.Proofs.Ytmabfnddedffoaa
open Go.RowKit
set_option linter.unusedVariables false
set_option linter.unusedSimpArgs false
set_option maxRecDepth 100000 in
set_option maxHeartbeats 4000000 in
theorem Most_model (m : Mo) (l : List (List Int)) (ws : List Int) (ov rv lv wv : Value) (w : World) (hs : SizedM m) (hl : Sized l) (h : MoAt w w.heap.size ov rv m) (hf : Forms w w.heap.size lv l) (hws : Ints w w.heap.size wv ws) (hwl : ws.length ≤ maxLen) (hm : m.err ≠ 0) :
    Calls Try.prog 138 #[.agg #[ov, rv], lv, wv] w (MosP (mosN m l ws) (mosX m l ws) (mosE m l ws) w) := by
  obtain ⟨A, cap, hov⟩ := Sl.form h.o
  obtain ⟨Ar, capr, hrv⟩ := h.r.form
  have H := hide h
  have HF := hide hf
  have HS := hide hs
  have HL := hide hl
  obtain ⟨Al, capl, hlv⟩ := hf.form
  obtain ⟨Aw, bw, offw, capw, rfl, hncw, hAw, hcw⟩ := hws
  have HAW := hide hAw
  have HCW := hide hcw
  subst hov hrv hlv
  unfold maxLen at hwl
  have hee := mos_frm (ws := ws) (l := l) (by rw [frm_err hm]; exact hm)
  rw [frm_err hm] at hee
  obtain ⟨z, hz⟩ : ∃ z, m.err = z := ⟨_, rfl⟩
  rw [hz] at hm hee
  have hz1 : (z != 0) = true := by simpa using hm
  have HM := hide hz
  have HEE := hide hee
  have HZ0 := hide hm
  clear h hf hs hl hAw hcw hm hz hee
  go_enter Try.func138, Try.ntmps138
  go_upto_region 1 with (fail)
  generalize hw0 : World.alloc _ _ = w0
  obtain ⟨hb0, hB0, hs0⟩ := alloc1 hw0
  clear hw0
  have c0 := cellOf hb0 0
  have c1 := cellOf hb0 1
  have HX0 : Hid (MoBox w0 w.heap.size (.slice A m.opts.length cap) (.slice Ar m.rules.length capr)) := hb0
  have HB0 := hide hB0
  have hck := CheckModel_any m (.slice A m.opts.length cap) (.slice Ar m.rules.length capr) w0 HS.out (H.out.up hB0)
  have HCK := hide hck
  clear hb0 hB0 hs0 hck
  go_wp2_with (go_at_call 52; refine HCK.out.mono ?_; rw [HM.out]; rintro e w1 ⟨rfl, hB1⟩; have hbx := box_to HX0.out hB1; have d0 := cellOf hbx 0; have d1 := cellOf hbx 1; have HB1 : Hid (Below w.heap.size w w1) := Below.to HB0.out hB1 (Nat.le_refl _); clear hbx hB1 c0 c1)
  go_ret3
  exact MosP.bad HEE.out HZ0.out HB1.out
set_option maxRecDepth 100000 in
set_option maxHeartbeats 4000000 in
theorem Most_many (m : Mo) (l : List (List Int)) (ws : List Int) (ov rv lv wv : Value) (w : World) (hs : SizedM m) (hl : Sized l) (h : MoAt w w.heap.size ov rv m) (hf : Forms w w.heap.size lv l) (hws : Ints w w.heap.size wv ws) (hwl : ws.length ≤ maxLen) (hm : m.err = 0) (h200 : 200 < l.length) :
    Calls Try.prog 138 #[.agg #[ov, rv], lv, wv] w (MosP (mosN m l ws) (mosX m l ws) (mosE m l ws) w) := by
  obtain ⟨A, cap, hov⟩ := Sl.form h.o
  obtain ⟨Ar, capr, hrv⟩ := h.r.form
  have H := hide h
  have HF := hide hf
  have HS := hide hs
  have HL := hide hl
  obtain ⟨Al, capl, hlv⟩ := hf.form
  obtain ⟨Aw, bw, offw, capw, rfl, hncw, hAw, hcw⟩ := hws
  have HAW := hide hAw
  have HCW := hide hcw
  subst hov hrv hlv
  unfold maxLen at hwl
  have hee := mos_frm (ws := ws) (l := l) (by rw [frm_many hm h200]; omega)
  rw [frm_many hm h200] at hee
  have hz1 : (200 : Int) < (l.length : Int) := by omega
  have HM := hide hm
  have HEE := hide hee
  clear h hf hs hl hAw hcw hm hee h200
  go_enter Try.func138, Try.ntmps138
  go_upto_region 1 with (fail)
  generalize hw0 : World.alloc _ _ = w0
  obtain ⟨hb0, hB0, hs0⟩ := alloc1 hw0
  clear hw0
  have c0 := cellOf hb0 0
  have c1 := cellOf hb0 1
  have HX0 : Hid (MoBox w0 w.heap.size (.slice A m.opts.length cap) (.slice Ar m.rules.length capr)) := hb0
  have HB0 := hide hB0
  have hck := CheckModel_any m (.slice A m.opts.length cap) (.slice Ar m.rules.length capr) w0 HS.out (H.out.up hB0)
  have HCK := hide hck
  clear hb0 hB0 hs0 hck
  go_wp2_with (go_at_call 52; refine HCK.out.mono ?_; rw [HM.out]; rintro e w1 ⟨rfl, hB1⟩; have hbx := box_to HX0.out hB1; have d0 := cellOf hbx 0; have d1 := cellOf hbx 1; have HB1 : Hid (Below w.heap.size w w1) := Below.to HB0.out hB1 (Nat.le_refl _); clear hbx hB1 c0 c1)
  go_ret3
  exact MosP.bad HEE.out (by omega) HB1.out
set_option maxRecDepth 100000 in
set_option maxHeartbeats 4000000 in
theorem Most_form (m : Mo) (l : List (List Int)) (ws : List Int) (ov rv lv wv : Value) (w : World) (hs : SizedM m) (hl : Sized l) (h : MoAt w w.heap.size ov rv m) (hf : Forms w w.heap.size lv l) (hws : Ints w w.heap.size wv ws) (hwl : ws.length ≤ maxLen) (hm : m.err = 0) (h200 : l.length ≤ 200) (he : m.errF l ≠ 0) :
    Calls Try.prog 138 #[.agg #[ov, rv], lv, wv] w (MosP (mosN m l ws) (mosX m l ws) (mosE m l ws) w) := by
  obtain ⟨A, cap, hov⟩ := Sl.form h.o
  obtain ⟨Ar, capr, hrv⟩ := h.r.form
  have H := hide h
  have HF := hide hf
  have HS := hide hs
  have HL := hide hl
  obtain ⟨Al, capl, hlv⟩ := hf.form
  obtain ⟨Aw, bw, offw, capw, rfl, hncw, hAw, hcw⟩ := hws
  have HAW := hide hAw
  have HCW := hide hcw
  subst hov hrv hlv
  unfold maxLen at hwl
  have hee := mos_frm (ws := ws) (l := l) (by rw [frm_rest hm h200]; exact he)
  rw [frm_rest hm h200] at hee
  have hz1 : ¬ (200 : Int) < (l.length : Int) := by omega
  obtain ⟨z, hz⟩ : ∃ z, m.errF l = z := ⟨_, rfl⟩
  have HE0 := hide he
  rw [hz] at he hee
  have hz2 : (z != 0) = true := by simpa using he
  have HM := hide hm
  have HZ := hide hz
  have HZ0 := hide he
  have HEE := hide hee
  clear h hf hs hl hAw hcw hm hee h200 he hz
  go_enter Try.func138, Try.ntmps138
  go_upto_region 1 with (fail)
  generalize hw0 : World.alloc _ _ = w0
  obtain ⟨hb0, hB0, hs0⟩ := alloc1 hw0
  clear hw0
  have c0 := cellOf hb0 0
  have c1 := cellOf hb0 1
  have HX0 : Hid (MoBox w0 w.heap.size (.slice A m.opts.length cap) (.slice Ar m.rules.length capr)) := hb0
  have HB0 := hide hB0
  have hck := CheckModel_any m (.slice A m.opts.length cap) (.slice Ar m.rules.length capr) w0 HS.out (H.out.up hB0)
  have HCK := hide hck
  clear hb0 hB0 hs0 hck
  go_wp2_with (first | (go_at_call 52; refine HCK.out.mono ?_; rw [HM.out]; rintro e w1 ⟨rfl, hB1⟩; have hbx := box_to HX0.out hB1; have d0 := cellOf hbx 0; have d1 := cellOf hbx 1; have HB1 : Hid (Below w.heap.size w w1) := Below.to HB0.out hB1 (Nat.le_refl _); clear hbx hB1 c0 c1) | (go_at_call 147; refine (begin_err m l _ _ _ _ HS.out HL.out (H.out.up HB1.out) (HF.out.up HB1.out) HE0.out).mono ?_; rw [HZ.out]; rintro e w2 ⟨rfl, hB2⟩; have HB2 : Hid (Below w.heap.size w w2) := Below.to HB1.out hB2 (Nat.le_refl _); clear hB2))
  go_ret3
  exact MosP.bad HEE.out HZ0.out HB2.out
set_option maxRecDepth 100000 in
set_option maxHeartbeats 4000000 in
theorem Most_arg (m : Mo) (l : List (List Int)) (ws : List Int) (ov rv lv wv : Value) (w : World) (hs : SizedM m) (hl : Sized l) (h : MoAt w w.heap.size ov rv m) (hf : Forms w w.heap.size lv l) (hws : Ints w w.heap.size wv ws) (hwl : ws.length ≤ maxLen) (he : m.errF l = 0) (hN : m.opts.length ≤ 12) (h200 : l.length ≤ 200) (hlw : ws.length ≠ l.length) :
    Calls Try.prog 138 #[.agg #[ov, rv], lv, wv] w (MosP (mosN m l ws) (mosX m l ws) (mosE m l ws) w) := by
  obtain ⟨A, cap, hov⟩ := Sl.form h.o
  obtain ⟨Ar, capr, hrv⟩ := h.r.form
  have H := hide h
  have HF := hide hf
  have HS := hide hs
  have HL := hide hl
  obtain ⟨Al, capl, hlv⟩ := hf.form
  obtain ⟨Aw, bw, offw, capw, rfl, hncw, hAw, hcw⟩ := hws
  have HAW := hide hAw
  have HCW := hide hcw
  subst hov hrv hlv
  unfold maxLen at hwl
  have hm := (Mo.okF he).1
  have hee := mos_arg (m := m) (ws := ws) (l := l) (by rw [frm_rest hm h200]; exact he) (.inl hlw)
  have hz1 : ¬ (200 : Int) < (l.length : Int) := by omega
  have hz2 : ((ws.length : Int) != (l.length : Int)) = true := by simp; omega
  have HE := hide he
  have HM := hide hm
  have HEE := hide hee
  clear h hf hs hl hAw hcw hm hee h200 he hlw
  go_enter Try.func138, Try.ntmps138
  go_upto_region 1 with (fail)
  generalize hw0 : World.alloc _ _ = w0
  obtain ⟨hb0, hB0, hs0⟩ := alloc1 hw0
  clear hw0
  have c0 := cellOf hb0 0
  have c1 := cellOf hb0 1
  have HX0 : Hid (MoBox w0 w.heap.size (.slice A m.opts.length cap) (.slice Ar m.rules.length capr)) := hb0
  have HB0 := hide hB0
  have hck := CheckModel_any m (.slice A m.opts.length cap) (.slice Ar m.rules.length capr) w0 HS.out (H.out.up hB0)
  have HCK := hide hck
  clear hb0 hB0 hs0 hck
  go_wp2_with (first | (go_at_call 52; refine HCK.out.mono ?_; rw [HM.out]; rintro e w1 ⟨rfl, hB1⟩; have hbx := box_to HX0.out hB1; have d0 := cellOf hbx 0; have d1 := cellOf hbx 1; have HB1 : Hid (Below w.heap.size w w1) := Below.to HB0.out hB1 (Nat.le_refl _); clear hbx hB1 c0 c1) | (go_at_call 147; refine (begin_ok m l _ _ _ _ HS.out HL.out (H.out.up HB1.out) (HF.out.up HB1.out) HE.out hN).mono ?_; rintro e w2 ⟨F, n, rfl, r1⟩; have R1 : Hid (BegR m w w2 F n) := r1.of HB1.out; clear r1 d0 d1))
  go_ret3
  exact MosP.bad HEE.out (by omega) R1.out.below
set_option maxRecDepth 100000 in
set_option maxHeartbeats 4000000 in
theorem Most_loop (m : Mo) (l : List (List Int)) (ws : List Int) (ov rv lv wv : Value) (w : World) (hs : SizedM m) (hl : Sized l) (h : MoAt w w.heap.size ov rv m) (hf : Forms w w.heap.size lv l) (hws : Ints w w.heap.size wv ws) (hwl : ws.length ≤ maxLen) (he : m.errF l = 0) (hN : m.opts.length ≤ 12) (h200 : l.length ≤ 200) (hlw : ws.length = l.length) (hno : wOk ws = true → allM m = []) :
    Calls Try.prog 138 #[.agg #[ov, rv], lv, wv] w (MosP (mosN m l ws) (mosX m l ws) (mosE m l ws) w) := by
  obtain ⟨A, cap, hov⟩ := Sl.form h.o
  obtain ⟨Ar, capr, hrv⟩ := h.r.form
  have H := hide h
  have HF := hide hf
  have HS := hide hs
  have HL := hide hl
  obtain ⟨Al, capl, hlv⟩ := hf.form
  obtain ⟨Aw, bw, offw, capw, rfl, hncw, hAw, hcw⟩ := hws
  have HAW := hide hAw
  have HCW := hide hcw
  subst hov hrv hlv
  unfold maxLen at hwl
  have hm := (Mo.okF he).1
  have hfr : frmE m l = 0 := by rw [frm_rest hm h200]; exact he
  have hz1 : ¬ (200 : Int) < (l.length : Int) := by omega
  have hz2 : ((ws.length : Int) != (l.length : Int)) = false := by rw [hlw]; simp
  have hz4 : (ws.length : Int) ≤ 200 := by omega
  have HE := hide he
  have HM := hide hm
  have HFR := hide hfr
  have HLW := hide hlw
  have HNO := hide hno
  clear h hf hs hl hAw hcw hm hfr h200 he hlw hno
  go_enter Try.func138, Try.ntmps138
  go_upto_region 1 with (fail)
  generalize hw0 : World.alloc _ _ = w0
  obtain ⟨hb0, hB0, hs0⟩ := alloc1 hw0
  clear hw0
  have c0 := cellOf hb0 0
  have c1 := cellOf hb0 1
  have HX0 : Hid (MoBox w0 w.heap.size (.slice A m.opts.length cap) (.slice Ar m.rules.length capr)) := hb0
  have HB0 := hide hB0
  have hck := CheckModel_any m (.slice A m.opts.length cap) (.slice Ar m.rules.length capr) w0 HS.out (H.out.up hB0)
  have HCK := hide hck
  clear hb0 hB0 hs0 hck
  go_wp2_with (first | (go_at_call 52; refine HCK.out.mono ?_; rw [HM.out]; rintro e w1 ⟨rfl, hB1⟩; have hbx := box_to HX0.out hB1; have d0 := cellOf hbx 0; have d1 := cellOf hbx 1; have HB1 : Hid (Below w.heap.size w w1) := Below.to HB0.out hB1 (Nat.le_refl _); clear hbx hB1 c0 c1) | (go_at_call 147; refine (begin_ok m l _ _ _ _ HS.out HL.out (H.out.up HB1.out) (HF.out.up HB1.out) HE.out hN).mono ?_; rintro e w2 ⟨F, n, rfl, r1⟩; have R1 : Hid (BegR m w w2 F n) := r1.of HB1.out; clear r1 d0 d1))
  go_loop [44] (fun i => ∃ k : Nat, k ≤ ws.length ∧ i = .int .i64 k ∧ Hid (∀ j, j < k → -1000000 ≤ ws.getD j 0 ∧ ws.getD j 0 ≤ 1000000)) (fun i => ws.length - (intOf i).toNat)
  case atStart => exact ⟨0, Nat.zero_le _, rfl, fun j hj => by omega⟩
  case round =>
    obtain ⟨k, hk, rfl, hall⟩ := hrel
    by_cases hkl : k < ws.length
    · obtain ⟨rfl, hbb⟩ : Aw = some ⟨bw, offw, none⟩ ∧ bw < w.heap.size := by
        rcases HAW.out with h | h
        · exact h
        · omega
      obtain ⟨x, hx⟩ : ∃ x, ws.getD k 0 = x := ⟨_, rfl⟩
      have c2 : w2.cell? ⟨bw, offw + k, none⟩ = some (.int .i64 x) := by
        have h1 := HCW.out k 0 hkl (by omega)
        rw [Nat.mul_one, Nat.add_zero, hx] at h1
        exact (R1.out.below.cell (p := ⟨bw, offw + k, none⟩) hbb).trans h1
      have j1 : (k : Int) < (ws.length : Int) := by omega
      have HX := hide hx
      clear hx
      by_cases h1 : x < -1000000
      · have hee := mos_arg HFR.out (l := l) (.inr (wOk_not hkl (by rw [HX.out]; omega)))
        have HEE := hide hee
        clear hee
        go_wp2_with fail
        go_ret3
        exact MosP.bad HEE.out (by omega) R1.out.below
      · by_cases h2 : 1000000 < x
        · have hee := mos_arg HFR.out (l := l) (.inr (wOk_not hkl (by rw [HX.out]; omega)))
          have HEE := hide hee
          clear hee
          go_wp2_with fail
          go_ret3
          exact MosP.bad HEE.out (by omega) R1.out.below
        · go_wp2_with fail
          go_round
          case rel => exact ⟨k + 1, by omega, by go_num, fun j hj => by
              rcases Nat.lt_or_ge j k with h | h
              · exact hall.out j h
              · rw [show j = k from by omega, HX.out]; omega⟩
          case measure => simp [intOf]; omega
    · have hwok := wOk_all (fun j hj => hall.out j (by omega))
      have hnone := HNO.out hwok
      have hee := mos_none HFR.out HLW.out hwok hnone
      have hn0 : n = 0 := by
        rcases Nat.eq_zero_or_pos n with h0 | h0
        · exact h0
        · exfalso
          refine sat_ne R1.out.here.wf R1.out.lt (l := []) (by omega) (Nat.zero_le _) ?_
          rw [satM_node (m := m) (p := fun _ => true) R1.out.N (fun v => by rw [R1.out.ev v, Bool.and_true]), satM_true]
          exact hnone
      have HEE := hide hee
      clear hwok hnone hee
      subst hn0
      go_wp2_with fail
      go_ret3
      exact MosP.bad HEE.out (by omega) R1.out.below
theorem Most_any (m : Mo) (l : List (List Int)) (ws : List Int) (ov rv lv wv : Value) (w : World) (hs : SizedM m) (hl : Sized l) (h : MoAt w w.heap.size ov rv m) (hf : Forms w w.heap.size lv l) (hws : Ints w w.heap.size wv ws) (hwl : ws.length ≤ maxLen) (hN : m.err = 0 → m.opts.length ≤ 12) :
    Calls Try.prog 138 #[.agg #[ov, rv], lv, wv] w (MosP (mosN m l ws) (mosX m l ws) (mosE m l ws) w) := by
  by_cases hm : m.err = 0
  · by_cases h200 : l.length ≤ 200
    · by_cases he : m.errF l = 0
      · by_cases hlw : ws.length = l.length
        · by_cases hno : wOk ws = true → allM m = []
          · exact Most_loop m l ws ov rv lv wv w hs hl h hf hws hwl he (hN hm) h200 hlw hno
          · have hw : wOk ws = true := by
              cases hw : wOk ws with
              | true => rfl
              | false => exact absurd (fun h => by simp [hw] at h) hno
            have ha : allM m ≠ [] := fun h => hno fun _ => h
            have hee := mos_ok (by rw [frm_rest hm h200]; exact he) hlw hw ha
            refine (Most_ok m l ws ov rv lv wv w hs hl h hf hws he (hN hm) h200 hlw (wOk_iff.1 hw) (by rw [satM_true]; exact ha)).mono ?_
            rintro e w' ⟨v, x, h1, h2, h3, h4, h5⟩
            have hx1 : mosX m l ws = x := by unfold mosX; rw [hee, if_pos rfl, h2]; rfl
            have hn1 : mosN m l ws = bestF m l ws := by unfold mosN; rw [hee, if_pos rfl]
            rw [hx1, hn1, hee]
            exact ⟨v, h1, h4, h5⟩
        · exact Most_arg m l ws ov rv lv wv w hs hl h hf hws hwl he (hN hm) h200 hlw
      · exact Most_form m l ws ov rv lv wv w hs hl h hf hws hwl hm h200 he
    · exact Most_many m l ws ov rv lv wv w hs hl h hf hws hwl hm (by omega)
  · exact Most_model m l ws ov rv lv wv w hs hl h hf hws hwl hm
end Go.Proofs.Ytmabfnddedffoaa
/- The order of variants. Plain laws. -/
namespace Go.Proofs.Ytmabfnddedffoaa
set_option linter.unusedVariables false
/-- Whether a variant comes before another one. -/
def befB : List Bool → List Bool → Bool
  | a :: x, b :: y => if a = b then befB x y else b
  | _, _ => false
end Go.Proofs.Ytmabfnddedffoaa
/- The first variant in which a node holds. Plain laws. -/
namespace Go.Proofs.Ytmabfnddedffoaa
set_option linter.unusedVariables false
structure HeadI (ks : List Kn) (N n : Nat) (l : List Bool) (m : Nat) : Prop where
  head : (sat ks N n []).head? = (sat ks N m l).head?
  ne : m ≠ 0
  lt : m < ks.length
  top : l.length ≤ topK ks m
theorem HeadI.start {ks : List Kn} {N n : Nat} (hn : n < ks.length) (h0 : n ≠ 0) : HeadI ks N n [] n := ⟨rfl, h0, hn, Nat.zero_le _⟩
theorem HeadI.next {ks : List Kn} {N n m : Nat} {l : List Bool} (hw : WF N ks) (h : HeadI ks N n l m) (hl : l.length < N) : HeadI ks N n (l ++ [decide (brK ks m l.length false = 0)]) (brK ks m l.length (decide (brK ks m l.length false = 0))) := by
  have hst := sat_step hw h.lt hl
  have hne := sat_ne hw h.lt h.ne h.top
  by_cases h0 : brK ks m l.length false = 0
  · have hd : decide (brK ks m l.length false = 0) = true := decide_eq_true h0
    rw [hd]
    rw [h0, sat_zero, List.nil_append] at hst
    refine ⟨h.head.trans (by rw [hst]), fun e => ?_, brK_lt hw h.lt hl, ?_⟩
    · rw [e, sat_zero] at hst
      exact hne hst
    · rw [List.length_append]; exact brK_top hw h.lt hl h.top
  · have hd : decide (brK ks m l.length false = 0) = false := decide_eq_false h0
    rw [hd]
    have hb := brK_lt hw (b := false) h.lt hl
    have htop : (l ++ [false]).length ≤ topK ks (brK ks m l.length false) := by rw [List.length_append]; exact brK_top hw h.lt hl h.top
    refine ⟨h.head.trans ?_, h0, hb, htop⟩
    rw [hst]
    have h5 := sat_ne hw hb h0 htop
    match sat ks N (brK ks m l.length false) (l ++ [false]), h5 with
    | [], h5 => exact absurd rfl h5
    | x :: r, _ => rfl
theorem HeadI.finish {ks : List Kn} {N n m : Nat} {l : List Bool} (hw : WF N ks) (h : HeadI ks N n l m) (hl : l.length = N) : (sat ks N n []).head? = some l := by
  have h1 : m = 1 := by
    rcases Nat.lt_or_ge m 2 with h2 | h2
    · have := h.ne; omega
    · have h3 := hw.opt m h2 h.lt
      have h4 := h.top
      omega
  rw [h.head, h1, sat_one, hl, Nat.sub_self]
  rfl
end Go.Proofs.Ytmabfnddedffoaa
/- The first variant in which a node holds: walk. -/
namespace Go.Proofs.Ytmabfnddedffoaa
open Go.RowKit
set_option linter.unusedVariables false
set_option linter.unusedSimpArgs false
def FirR (F : Fo) (n : Nat) (w : World) (e : Ending) (w' : World) : Prop := ∃ x : List Bool, e = .returned (.slice (some ⟨w.heap.size, 0, none⟩) F.N F.N) ∧ VarAt w' w.heap.size F.N x ∧ x.length = F.N ∧ (sat F.ks F.N n []).head? = some x ∧ Below w.heap.size w w'
end Go.Proofs.Ytmabfnddedffoaa
/- Whether formulas can be met; whether one implies another: walks. -/
namespace Go.Proofs.Ytmabfnddedffoaa
open Go.RowKit
set_option linter.unusedVariables false
set_option linter.unusedSimpArgs false
/-- A variant (or none), whether so, and an error. -/
def MeeP (x : List Bool) (is : Bool) (er : Int) (w : World) (e : Ending) (w' : World) : Prop := ∃ v, e = .returned (.tuple #[v, .bool is, .int .i64 er]) ∧ Bols w' w'.heap.size v x ∧ Below w.heap.size w w'
/-- What Meets returns. -/
def meeL (m : Mo) (l : List (List Int)) : List (List Bool) := satM m fun v => allF v l
def meeX (m : Mo) (l : List (List Int)) : List Bool := if frmE m l = 0 then (meeL m l).head?.getD [] else []
def meeB (m : Mo) (l : List (List Int)) : Bool := if frmE m l = 0 then !(meeL m l).isEmpty else false
theorem MeeP.bad {x : List Bool} {b : Bool} {er : Int} {w w' : World} (h : x = [] ∧ b = false) (hb : Below w.heap.size w w') : MeeP x b er w (.returned (.tuple #[.slice none 0 0, .bool false, .int .i64 er])) w' := by
  obtain ⟨rfl, rfl⟩ := h
  exact ⟨_, rfl, Sl.nil _ _ _ _, hb⟩
/-- What Implies returns. -/
def impL (m : Mo) (f g : List Int) : List (List Bool) := satM m fun v => evF1 v f && !evF1 v g
def impX (m : Mo) (f g : List Int) : List Bool := if m.errF [f, g] = 0 then (impL m f g).head?.getD [] else []
def impB (m : Mo) (f g : List Int) : Bool := if m.errF [f, g] = 0 then (impL m f g).isEmpty else false
theorem FirR.bols {F : Fo} {b : Nat} {w' : World} {x : List Bool} (hV : VarAt w' b F.N x) (hx : x.length = F.N) : Bols w' w'.heap.size (.slice (some ⟨b, 0, none⟩) F.N F.N) x := by
  have h1 := VarAt.bols (w := w') (b := b) (l := x) (by rw [hx]; exact hV)
  rw [hx] at h1
  exact h1
/-- first, in one: the variant that it gives. -/
def FstP (F : Fo) (n : Nat) (w : World) (e : Ending) (w' : World) : Prop := ∃ v, e = .returned v ∧ Bols w' w'.heap.size v ((sat F.ks F.N n []).head?.getD []) ∧ Below w.heap.size w w'
end Go.Proofs.Ytmabfnddedffoaa
/- The rules because of which no variant meets a formula. Plain laws. -/
namespace Go.Proofs.Ytmabfnddedffoaa
set_option linter.unusedVariables false
/-- Some rules of a model, by number. -/
def rulesAt (m : Mo) (K : List Nat) : List (List Int) := K.map fun k => m.rules.getD k []
/-- The variants in which a formula, some rules, and those from one on hold. -/
def corS (m : Mo) (f : List Int) (K : List Nat) (j : Nat) : List (List Bool) := (exts m.opts.length []).filter fun x => evF1 (vf x) f && (allF (vf x) (rulesAt m K) && allF (vf x) (m.rules.drop j))
/-- Those of the first i rules that are left. -/
def kept (m : Mo) (f : List Int) : Nat → List Nat
  | 0 => []
  | i + 1 => if (corS m f (kept m f i) (i + 1)).isEmpty then kept m f i else kept m f i ++ [i]
/-- A model with some of the rules. -/
def fewM (m : Mo) (K : List Nat) : Mo := ⟨m.opts, rulesAt m K⟩
/-- What Core returns. -/
def corE (m : Mo) (f : List Int) : Int := if m.errF [f] ≠ 0 then m.errF [f] else if whereF (allM m) f ≠ [] then 1 else 0
def corL (m : Mo) (f : List Int) : List Nat := if corE m f = 0 then kept m f m.rules.length else []
end Go.Proofs.Ytmabfnddedffoaa
/- The rules because of which no variant meets a formula: walk. -/
namespace Go.Proofs.Ytmabfnddedffoaa
open Go.RowKit
set_option linter.unusedVariables false
set_option linter.unusedSimpArgs false
/-- A list of rules and an error. -/
def CorP (l : List Nat) (er : Int) (w : World) (e : Ending) (w' : World) : Prop := ∃ v, e = .returned (.tuple #[v, .int .i64 er]) ∧ Nods w' w'.heap.size v l ∧ Below w.heap.size w w'
theorem CorP.none (er : Int) {w w' : World} (h : Below w.heap.size w w') : CorP [] er w (.returned (.tuple #[.slice none 0 0, .int .i64 er])) w' := ⟨_, rfl, Sl.nil _ _ _ _, h⟩
/-- What a slice from k on gives. -/
def slcV (A : Option Addr) (n cap k : Nat) : Value := sliced A k n cap 1
theorem Forms.drop {w : World} {B n cap : Nat} {A : Option Addr} {l : List (List Int)} {k : Nat} (h : Forms w B (.slice A n cap) l) (hk : k ≤ l.length) : Forms w B (slcV A n cap k) (l.drop k) := by
  obtain ⟨fv, ⟨A1, b1, off1, cap1, hv, hn, hA, hc⟩, h2⟩ := h
  injection hv with e1 e2 e3
  subst e1 e2 e3
  unfold slcV sliced
  split
  · rename_i hck
    have h0 : l.drop k = [] := List.drop_eq_nil_of_le (by omega)
    rw [h0, show l.length - k = 0 by omega, show cap - k = 0 by omega]
    exact ⟨fun _ => undef, ⟨A, b1, off1, 0, rfl, Nat.le_refl _, .inr rfl, fun i j hi hj => by simp at hi⟩, fun i hi => by simp at hi⟩
  · refine ⟨fun i => fv (k + i), ⟨A.map (·.add (k * 1)), b1, off1 + k, cap - k, by rw [List.length_drop], by rw [List.length_drop]; omega, ?_, fun i j hi hj => ?_⟩, fun i hi => ?_⟩
    · rcases hA with ⟨hA, hb⟩ | hA
      · subst hA
        refine .inl ⟨?_, hb⟩
        simp only [Option.map_some, Nat.mul_one]
        congr 1
        unfold Addr.add
        split
        · rename_i h0; rw [h0]; rfl
        · rfl
      · exact .inr (by rw [List.length_drop]; omega)
    · rw [List.length_drop] at hi
      have := hc (k + i) j (by omega) hj
      rw [show off1 + k + (i * 1 + j) = off1 + ((k + i) * 1 + j) by omega]
      exact this
    · rw [List.length_drop] at hi
      have := h2 (k + i) (by omega)
      rw [show (l.drop k).getD i [] = l.getD (k + i) [] by simp [List.getD_eq_getElem?_getD]]
      exact this
/-- What holds of the forest between two rules of Core. -/
structure CorI (m : Mo) (f : List Int) (w1 : World) (F : Fo) (a k : Nat) (w2 : World) (F1 : Fo) : Prop where
  op : OpR k w1 F w2 F1
  lt : a < F1.ks.length
  ev : ∀ v, ev F1.ks v a = evF1 v f
theorem CorI.step {m : Mo} {f : List Int} {w1 : World} {F : Fo} {a k l : Nat} {w2 w3 : World} {F1 F2 : Fo} (h : CorI m f w1 F a k w2 F1) (r : OpR l w2 F1 w3 F2) : CorI m f w1 F a (k + l) w3 F2 :=
  ⟨h.op.trans r, Nat.lt_of_lt_of_le h.lt r.st.le, fun v => by rw [r.st.ev h.op.st.here.wf h.lt, h.ev v]⟩
end Go.Proofs.Ytmabfnddedffoaa
/- Core as the elder program has it: walk. -/
namespace Go.Proofs.Ytmabfnddedffoaa
open Go.RowKit
set_option linter.unusedVariables false
set_option linter.unusedSimpArgs false
/-- A list of numbers of the call's own, above block B. -/
def NStk (B : Nat) (w : World) (sv : Value) (S : List Nat) : Prop := w.ownsRow B 3 1 sv S.length (S.map fun (n : Nat) => Value.int .i64 n)
theorem NStk.nil (w : World) (B : Nat) : NStk B w (.slice none 0 0) [] := World.ownsRow_nil w B 3 1
theorem NStk.below {B : Nat} {w w' : World} {sv : Value} {S : List Nat} (h : NStk B w sv S) (hb : Below w.heap.size w w') : NStk B w' sv S := owns_below h hb
theorem NStk.same {B : Nat} {w w' : World} {sv : Value} {S : List Nat} (h : NStk B w sv S) (hs : ∀ b, sv.ownBlock = some b → w'.heap[b]? = w.heap[b]?) : NStk B w' sv S := ownsRow_same h hs
theorem NStk.shape {B : Nat} {w : World} {sv : Value} {S : List Nat} (h : NStk B w sv S) : ∃ A cap, sv = .slice A S.length cap ∧ S.length ≤ cap ∧ cap ≤ maxLen := by
  rcases h.2 with ⟨h1, h2⟩ | ⟨g, cap, cur, h1, _, _, h2, h3, _⟩
  · exact ⟨none, 0, by rw [h1, h2], by omega, by unfold maxLen; omega⟩
  · exact ⟨_, cap, h1, h2, h3⟩
theorem NStk.cells {B : Nat} {w : World} {A : Option Addr} {n cap : Nat} {S : List Nat} (h : NStk B w (.slice A n cap) S) (hn : 0 < S.length) : ∃ g, A = some ⟨g, 0, none⟩ ∧ g < w.heap.size ∧ B ≤ g ∧ ∀ i, i < S.length → w.cell? ⟨g, i, none⟩ = some (.int .i64 (S.getD i 0 : Nat)) := by
  obtain ⟨g, cap', hv, hgb, hl⟩ := World.ownsRow.form h hn
  injection hv with h1 h2 h3
  subst h1
  refine ⟨g, rfl, hl, hgb, fun i hi => ?_⟩
  have := World.ownsRow.cells (g := g) h rfl i (.int .i64 (S.getD i 0 : Nat)) (by simp [hi])
  have he : (⟨g, 0, none⟩ : Addr).add i = ⟨g, i, none⟩ := by
    unfold Addr.add
    split
    · rename_i h0; rw [h0]
    · rw [Nat.zero_add]
  rwa [he] at this
theorem NStk.push {B : Nat} {w1 : World} {S : List Nat} {v1 : Value} {m : Nat} (hown : w1.ownsRow B 3 1 v1 (S.length + 1) ((S.map fun (n : Nat) => Value.int .i64 n) ++ [.int .i64 (m : Nat)])) : NStk B w1 v1 (S ++ [m]) := by
  unfold NStk
  rw [List.length_append, List.map_append]
  exact hown
theorem NStk.base {B B' : Nat} {w : World} {sv : Value} {S : List Nat} (h : NStk B w sv S) (hB : B' ≤ B) : NStk B' w sv S := owns_base h hB
/-- Numbers but one. -/
def butN (i : Nat) (S : List Nat) : List Nat := S.filter fun k => !(k == i)
/-- Formulas of an elder world w, in a slice of the call's own. -/
structure OFs (w : World) (e B : Nat) (wr : World) (sv : Value) (L : List (List Int)) (vs : List Value) : Prop where
  len : vs.length = L.length
  own : wr.ownsRow B e 1 sv L.length vs
  row : ∀ i, i < L.length → Ints w w.heap.size (vs.getD i undef) (L.getD i [])
theorem OFs.nil (w : World) (e B : Nat) (wr : World) : OFs w e B wr (.slice none 0 0) [] [] := ⟨rfl, World.ownsRow_nil wr B e 1, fun i hi => by simp at hi⟩
theorem OFs.same {w : World} {e B : Nat} {wr wr' : World} {sv : Value} {L : List (List Int)} {vs : List Value} (h : OFs w e B wr sv L vs) (hs : ∀ b, sv.ownBlock = some b → wr'.heap[b]? = wr.heap[b]?) : OFs w e B wr' sv L vs := ⟨h.len, ownsRow_same h.own hs, h.row⟩
theorem OFs.push {w : World} {e B : Nat} {wr wr' : World} {sv v1 : Value} {L : List (List Int)} {vs : List Value} {l : List Int} {x : Value} (h : OFs w e B wr sv L vs) (hx : Ints w w.heap.size x l) (hown : wr'.ownsRow B e 1 v1 (L.length + 1) (vs ++ [x])) : OFs w e B wr' v1 (L ++ [l]) (vs ++ [x]) := by
  have hl := h.len
  refine ⟨by simp [hl], by rw [List.length_append]; exact hown, fun i hi => ?_⟩
  rw [getD_push, getD_push, hl]
  by_cases h1 : i < L.length
  · rw [if_pos h1, if_pos h1]
    exact h.row i h1
  · have : i = L.length := by simp at hi; omega
    rw [if_neg h1, if_pos this, if_neg h1, if_pos this]
    exact hx
theorem OFs.forms {w : World} {e B : Nat} {wr : World} {sv : Value} {L : List (List Int)} {vs : List Value} (h : OFs w e B wr sv L vs) (hb : Below w.heap.size w wr) : Forms wr wr.heap.size sv L := by
  refine ⟨fun i => vs.getD i undef, Sl.of_owns h.own fun i j hi hj => ?_, fun i hi => ((h.row i hi).below hb).more hb.size⟩
  obtain rfl : j = 0 := by omega
  have := h.len
  have hi2 : i < vs.length := by omega
  rw [Nat.mul_one, Nat.add_zero]
  simp [hi2]
theorem OFs.shape {w : World} {e B : Nat} {wr : World} {sv : Value} {L : List (List Int)} {vs : List Value} (h : OFs w e B wr sv L vs) : ∃ A cap, sv = .slice A L.length cap ∧ L.length ≤ cap ∧ cap ≤ maxLen := by
  rcases h.own.2 with ⟨h1, h2⟩ | ⟨g, cap, cur, h1, _, _, h2, h3, _⟩
  · exact ⟨none, 0, by rw [h1, h2], by omega, by unfold maxLen; omega⟩
  · exact ⟨_, cap, h1, h2, h3⟩
/-- The blocks that change when a rule is appended in a box. -/
def fewS (fb : Nat) (rv : Value) (k : Nat) : Prop := k = fb ∨ rv.ownBlock = some k
end Go.Proofs.Ytmabfnddedffoaa

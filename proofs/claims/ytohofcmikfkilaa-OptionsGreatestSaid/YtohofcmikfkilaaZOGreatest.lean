/- The variant of Most is buildable, has its sum, no buildable one has a greater sum, and none of the same sum comes before it: for every model, formulas, weights and variant; no condition. -/
import Derived.Test.YtohofcmikfkilaaRows
import Derived.Test.YtohofcmikfkilaaGF
import Derived.Test.YtohofcmikfkilaaGG
import Derived.Test.YtohofcmikfkilaaGJ
import Derived.Deep.RegionHeld3
import Derived.Deep.DrawnRows
namespace Go.Proofs.Ytohofcmikfkilaa
open Go.Joins Go.ChangeShapes Go.WideShapes Go.ChangeAt Go.RowKit Go.Deep
set_option maxRecDepth 100000
set_option linter.unusedVariables false
set_option linter.unusedSimpArgs false
section
variable {H : Type} {enc : TypeId × Value → H} {W : World} {base : Nat} {spare : Nat → Bool} {held : Bool} {r : Reach} {b0 : Nat} {v : Value} {d : DataW H} {p : List MemPlace}
theorem open_sum (hv : Value.okWide Try.prog W r b0 69 v) (h : DataW.Trod enc Try.prog W base spare held 69 v d p) :
    ∃ (lv wv : Value) (l : List (List Int)) (ws : List Int), v = .agg #[lv, wv] ∧ Forms W W.heap.size lv l ∧ Sized l ∧ Ints W W.heap.size wv ws ∧ ws.length ≤ maxLen := by
  obtain ⟨c0, c1, y0, y1, n, rfl, _, _, hy0, hy1⟩ := open_agg2 Try.underlying69 (by kernel_rfl) (by kernel_rfl) hv h
  obtain ⟨fs, hf, hfs⟩ := forms_cell Try.underlying23 hy0
  obtain ⟨ws, ho, hol, _⟩ := ints_cell Try.underlying26 hy1
  exact ⟨c0, c1, fs, ws, rfl, hf, hfs, ho, hol⟩
end
theorem mos_inv {m : Mo} {l : List (List Int)} {ws : List Int} (h : mosE m l ws = 0) : m.errF l = 0 ∧ l.length ≤ 200 ∧ ws.length = l.length ∧ (∀ x ∈ ws, -1000000 ≤ x ∧ x ≤ 1000000) ∧ allM m ≠ [] := by
  unfold mosE at h
  split at h
  · rename_i h1; exact absurd h h1
  · rename_i h1
    split at h
    · omega
    · rename_i h2
      split at h
      · omega
      · rename_i h3
        obtain ⟨h4, h5⟩ := frm_ok (m := m) (l := l) (by omega)
        refine ⟨h4, h5, by omega, wOk_iff.1 ?_, h3⟩
        cases hw : wOk ws with
        | true => rfl
        | false => exact absurd (.inr hw) h2
theorem bui_yes {m : Mo} {vs : List Bool} (h : m.err = 0) (h2 : vs.length = m.opts.length) (h3 : allF (vf vs) m.rules = true) : buiR m vs = -1 ∧ buiB m vs = true ∧ buiE m vs = 0 := by
  obtain ⟨h4, h5, h6⟩ := bui_ok h h2
  have h7 := fst_neg h3
  rw [h7] at h5 h6
  exact ⟨h5, h6.trans (by simp), h4⟩
theorem bui_inv {m : Mo} {vs : List Bool} (he : buiE m vs = 0) (hb : buiB m vs = true) : m.err = 0 ∧ vs.length = m.opts.length ∧ allF (vf vs) m.rules = true := by
  have h0 := he
  unfold buiE at h0
  split at h0
  · rename_i h1; exact absurd h0 h1
  · rename_i h1
    split at h0
    · omega
    · rename_i h2
      have h3 : m.err = 0 := by omega
      have h4 : vs.length = m.opts.length := by omega
      refine ⟨h3, h4, ?_⟩
      obtain ⟨_, _, h5⟩ := bui_ok h3 h4
      rw [hb] at h5
      cases hf : allF (vf vs) m.rules with
      | true => rfl
      | false =>
        have := fst_pos hf
        have h6 := h5.symm
        rw [decide_eq_true_eq] at h6
        omega
set_option maxRecDepth 100000 in
set_option maxHeartbeats 4000000 in
theorem optionsGreatest_far (m : Mo) (l : List (List Int)) (ws : List Int) (vs : List Bool) (ov rv lv wv vv : Value) (w : World) (hs : SizedM m) (hl : Sized l) (h : MoAt w w.heap.size ov rv m) (hf : Forms w w.heap.size lv l) (hws : Ints w w.heap.size wv ws) (hwl : ws.length ≤ maxLen) (hv : Bols w w.heap.size vv vs) (hvl : vs.length ≤ maxLen) (hfar : largeB m = true ∨ 30 < l.length) :
    Calls Try.prog 12 #[.agg #[ov, rv], .agg #[lv, wv], vv] w fun e w' => e = .returned (.bool true) ∧ Below w.heap.size w w' := by
  obtain ⟨A, cap, hov⟩ := Sl.form h.o
  obtain ⟨Ar, capr, hrv⟩ := h.r.form
  obtain ⟨Al, capl, hlv⟩ := hf.form
  obtain ⟨Aw, capw, hwv⟩ := Sl.form hws
  obtain ⟨Av, capv, hvv⟩ := Sl.form hv
  have H := hide h
  have HF := hide hf
  have HS := hide hs
  have HL := hide hl
  have HWS := hide hws
  have HV := hide hv
  subst hov hrv hlv hwv hvv
  cases hlg : largeB m with
  | true =>
    have HLG := hide hlg
    clear h hf hs hl hws hv hlg hfar
    go_enter Try.func12, Try.ntmps12
    go_upto_region 1 with (fail)
    generalize hw0 : World.alloc _ _ = w0
    obtain ⟨hb0, hb1, hB0, hs0⟩ := alloc2 hw0
    clear hw0
    have HX := hide hb0
    have HY := hide hb1
    have HB0 := hide hB0
    have c0 := cellOf hb0 0
    have c1 := cellOf hb0 1
    have d0 := cellOf hb1 0
    have d1 := cellOf hb1 1
    clear hb0 hb1 hB0 hs0
    go_wp2_with (first | (go_at_call 19; refine (Large_any m _ _ _ (H.out.up HB0.out)).mono ?_; rw [HLG.out]; rintro e w1 ⟨rfl, hB1⟩; have HB1 : Hid (Below w.heap.size w w1) := Below.to HB0.out hB1 (Nat.le_refl _); clear c0 c1 d0 d1; have HX1 := hide (box_to HX.out hB1); have HY1 := hide (box_to HY.out hB1); have c0 := cellOf HX1.out 0; have c1 := cellOf HX1.out 1; have d0 := cellOf HY1.out 0; have d1 := cellOf HY1.out 1; clear hB1) | (go_at_call 20; refine (works_any _).mono ?_; rintro e w9 ⟨rfl, hB9⟩))
    go_ret
    exact ⟨rfl, Below.to HB1.out hB9 (Nat.le_refl _)⟩
  | false =>
    have h30 : (30 : Int) < (l.length : Int) := by rw [hlg] at hfar; simp at hfar; omega
    have HLG := hide hlg
    clear h hf hs hl hws hv hlg hfar
    go_enter Try.func12, Try.ntmps12
    go_upto_region 1 with (fail)
    generalize hw0 : World.alloc _ _ = w0
    obtain ⟨hb0, hb1, hB0, hs0⟩ := alloc2 hw0
    clear hw0
    have HX := hide hb0
    have HY := hide hb1
    have HB0 := hide hB0
    have c0 := cellOf hb0 0
    have c1 := cellOf hb0 1
    have d0 := cellOf hb1 0
    have d1 := cellOf hb1 1
    clear hb0 hb1 hB0 hs0
    go_wp2_with (first | (go_at_call 19; refine (Large_any m _ _ _ (H.out.up HB0.out)).mono ?_; rw [HLG.out]; rintro e w1 ⟨rfl, hB1⟩; have HB1 : Hid (Below w.heap.size w w1) := Below.to HB0.out hB1 (Nat.le_refl _); clear c0 c1 d0 d1; have HX1 := hide (box_to HX.out hB1); have HY1 := hide (box_to HY.out hB1); have c0 := cellOf HX1.out 0; have c1 := cellOf HX1.out 1; have d0 := cellOf HY1.out 0; have d1 := cellOf HY1.out 1; clear hB1) | (go_at_call 20; refine (works_any _).mono ?_; rintro e w9 ⟨rfl, hB9⟩))
    go_ret
    exact ⟨rfl, Below.to HB1.out hB9 (Nat.le_refl _)⟩
set_option maxRecDepth 100000 in
set_option maxHeartbeats 4000000 in
theorem optionsGreatest_err (m : Mo) (l : List (List Int)) (ws : List Int) (vs : List Bool) (ov rv lv wv vv : Value) (w : World) (hs : SizedM m) (hl : Sized l) (h : MoAt w w.heap.size ov rv m) (hf : Forms w w.heap.size lv l) (hws : Ints w w.heap.size wv ws) (hwl : ws.length ≤ maxLen) (hv : Bols w w.heap.size vv vs) (hvl : vs.length ≤ maxLen) (hlg : largeB m = false) (h30 : l.length ≤ 30) (hz : mosE m l ws ≠ 0) :
    Calls Try.prog 12 #[.agg #[ov, rv], .agg #[lv, wv], vv] w fun e w' => e = .returned (.bool true) ∧ Below w.heap.size w w' := by
  obtain ⟨A, cap, hov⟩ := Sl.form h.o
  obtain ⟨Ar, capr, hrv⟩ := h.r.form
  obtain ⟨Al, capl, hlv⟩ := hf.form
  obtain ⟨Aw, capw, hwv⟩ := Sl.form hws
  obtain ⟨Av, capv, hvv⟩ := Sl.form hv
  have H := hide h
  have HF := hide hf
  have HS := hide hs
  have HL := hide hl
  have HWS := hide hws
  have HV := hide hv
  subst hov hrv hlv hwv hvv
  have HLG := hide hlg
  have hN : m.err = 0 → m.opts.length ≤ 12 := fun he => by have := (large_small hlg he).1; omega
  have HN := hide hN
  have h30' : ¬ (30 : Int) < (l.length : Int) := by omega
  obtain ⟨a, ha⟩ : ∃ z, mosN m l ws = z := ⟨_, rfl⟩
  obtain ⟨x, hb⟩ : ∃ y, mosX m l ws = y := ⟨_, rfl⟩
  obtain ⟨z, hc⟩ : ∃ y, mosE m l ws = y := ⟨_, rfl⟩
  have HA := hide ha
  have HBX := hide hb
  have HC := hide hc
  rw [hc] at hz
  have hz1 : (z != 0) = true := by simpa using hz
  clear h hf hs hl hws hv hlg hN ha hb hc hz
  go_enter Try.func12, Try.ntmps12
  go_upto_region 1 with (fail)
  generalize hw0 : World.alloc _ _ = w0
  obtain ⟨hb0, hb1, hB0, hs0⟩ := alloc2 hw0
  clear hw0
  have HX := hide hb0
  have HY := hide hb1
  have HB0 := hide hB0
  have c0 := cellOf hb0 0
  have c1 := cellOf hb0 1
  have d0 := cellOf hb1 0
  have d1 := cellOf hb1 1
  clear hb0 hb1 hB0 hs0
  go_wp2_with (first | (go_at_call 19; refine (Large_any m _ _ _ (H.out.up HB0.out)).mono ?_; rw [HLG.out]; rintro e w1 ⟨rfl, hB1⟩; have HB1 : Hid (Below w.heap.size w w1) := Below.to HB0.out hB1 (Nat.le_refl _); clear c0 c1 d0 d1; have HX1 := hide (box_to HX.out hB1); have HY1 := hide (box_to HY.out hB1); have c0 := cellOf HX1.out 0; have c1 := cellOf HX1.out 1; have d0 := cellOf HY1.out 0; have d1 := cellOf HY1.out 1; clear hB1) | (go_at_call 21; refine (Most_any m l ws _ _ _ _ _ HS.out HL.out (H.out.up HB1.out) (HF.out.up HB1.out) (HWS.out.up HB1.out) hwl HN.out).mono ?_; rw [HA.out, HBX.out, HC.out]; rintro e w2 ⟨v2, rfl, hv2, hB2⟩; obtain ⟨A2, cap2, hA2⟩ := Sl.form hv2; subst hA2; have HB2 : Hid (Below w.heap.size w w2) := Below.to HB1.out hB2 (Nat.le_refl _); have HV2 := hide hv2; clear hv2 c0 c1 d0 d1; have HX2 := hide (box_to HX1.out hB2); have HY2 := hide (box_to HY1.out hB2); have c0 := cellOf HX2.out 0; have c1 := cellOf HX2.out 1; have d0 := cellOf HY2.out 0; have d1 := cellOf HY2.out 1; clear hB2) | (go_at_call 20; refine (works_any _).mono ?_; rintro e w9 ⟨rfl, hB9⟩))
  go_ret
  exact ⟨rfl, Below.to HB2.out hB9 (Nat.le_refl _)⟩
set_option maxRecDepth 100000 in
set_option maxHeartbeats 4000000 in
theorem optionsGreatest_no (m : Mo) (l : List (List Int)) (ws : List Int) (vs : List Bool) (ov rv lv wv vv : Value) (w : World) (hs : SizedM m) (hl : Sized l) (h : MoAt w w.heap.size ov rv m) (hf : Forms w w.heap.size lv l) (hws : Ints w w.heap.size wv ws) (hwl : ws.length ≤ maxLen) (hv : Bols w w.heap.size vv vs) (hvl : vs.length ≤ maxLen) (hlg : largeB m = false) (h30 : l.length ≤ 30) (hz : mosE m l ws = 0) (hno : buiE m vs = 0 → buiB m vs = false) :
    Calls Try.prog 12 #[.agg #[ov, rv], .agg #[lv, wv], vv] w fun e w' => e = .returned (.bool true) ∧ Below w.heap.size w w' := by
  obtain ⟨A, cap, hov⟩ := Sl.form h.o
  obtain ⟨Ar, capr, hrv⟩ := h.r.form
  obtain ⟨Al, capl, hlv⟩ := hf.form
  obtain ⟨Aw, capw, hwv⟩ := Sl.form hws
  obtain ⟨Av, capv, hvv⟩ := Sl.form hv
  have H := hide h
  have HF := hide hf
  have HS := hide hs
  have HL := hide hl
  have HWS := hide hws
  have HV := hide hv
  subst hov hrv hlv hwv hvv
  have HLG := hide hlg
  have hN : m.err = 0 → m.opts.length ≤ 12 := fun he => by have := (large_small hlg he).1; omega
  have HN := hide hN
  have h30' : ¬ (30 : Int) < (l.length : Int) := by omega
  obtain ⟨a, ha⟩ : ∃ z, mosN m l ws = z := ⟨_, rfl⟩
  obtain ⟨x, hb⟩ : ∃ y, mosX m l ws = y := ⟨_, rfl⟩
  obtain ⟨z, hc⟩ : ∃ y, mosE m l ws = y := ⟨_, rfl⟩
  have HA := hide ha
  have HBX := hide hb
  have HC := hide hc
  rw [hc] at hz
  subst hz
  obtain ⟨he, hl200, hlw, hw, h0⟩ := mos_inv hc
  have hfd : (exts m.opts.length []).find? (fun y => valF m l ws y == bestF m l ws) = some x := by
    have hex : ∃ y, (exts m.opts.length []).find? (fun y => valF m l ws y == bestF m l ws) = some y := by
      have h1 := bestF_big hw (show l.length ≤ 1000 by omega) (by rw [satM_true]; exact h0)
      have h2 := maxL_attained _ h1
      rw [List.mem_map] at h2
      obtain ⟨y, hy, hye⟩ := h2
      have h3 : ((exts m.opts.length []).find? (fun y => valF m l ws y == bestF m l ws)).isSome = true := by
        rw [List.find?_isSome]
        exact ⟨y, hy, by show (valF m l ws y == bestF m l ws) = true; rw [beq_iff_eq]; exact hye⟩
      exact Option.isSome_iff_exists.1 h3
    obtain ⟨y, hy⟩ := hex
    rw [hy, ← hb]
    unfold mosX
    rw [hc, if_pos rfl, hy]
    rfl
  have hba : bestF m l ws = a := by rw [← ha]; unfold mosN; rw [hc, if_pos rfl]
  obtain ⟨hxl, hxa, hxs, hlaw⟩ := most_law hw (by omega) h0 hfd
  rw [hba] at hxs hlaw
  have hm := (Mo.okF he).1
  have hN12 := hN hm
  have HK := hide (bui_yes hm hxl hxa)
  have HE := hide he
  have HLW := hide hlw
  have HW := hide hw
  have HXL := hide hxl
  have HSX := hide hxs
  have hx12 : x.length ≤ 12 := by omega
  have n1 : (a != a) = false := by simp
  obtain ⟨q0, hq0⟩ : ∃ q, buiR m vs = q := ⟨_, rfl⟩
  obtain ⟨q1, hq1⟩ : ∃ q, buiB m vs = q := ⟨_, rfl⟩
  obtain ⟨q2, hq2⟩ : ∃ q, buiE m vs = q := ⟨_, rfl⟩
  have HQ0 := hide hq0
  have HQ1 := hide hq1
  have HQ2 := hide hq2
  rw [hq1, hq2] at hno
  clear h hf hs hl hws hv hlg hN ha hb hc he hlw hw h0 hfd hba hxl hxa hxs hlaw hm hN12 hq0 hq1 hq2
  by_cases hq : q2 = 0
  · have hq1 := hno hq
    subst hq hq1
    clear hno
    go_enter Try.func12, Try.ntmps12
    go_upto_region 1 with (fail)
    generalize hw0 : World.alloc _ _ = w0
    obtain ⟨hb0, hb1, hB0, hs0⟩ := alloc2 hw0
    clear hw0
    have HX := hide hb0
    have HY := hide hb1
    have HB0 := hide hB0
    have c0 := cellOf hb0 0
    have c1 := cellOf hb0 1
    have d0 := cellOf hb1 0
    have d1 := cellOf hb1 1
    clear hb0 hb1 hB0 hs0
    go_upto_region 10 with (first | (go_at_call 19; refine (Large_any m _ _ _ (H.out.up HB0.out)).mono ?_; rw [HLG.out]; rintro e w1 ⟨rfl, hB1⟩; have HB1 : Hid (Below w.heap.size w w1) := Below.to HB0.out hB1 (Nat.le_refl _); clear c0 c1 d0 d1; have HX1 := hide (box_to HX.out hB1); have HY1 := hide (box_to HY.out hB1); have c0 := cellOf HX1.out 0; have c1 := cellOf HX1.out 1; have d0 := cellOf HY1.out 0; have d1 := cellOf HY1.out 1; clear hB1) | (go_at_call 21; refine (Most_any m l ws _ _ _ _ _ HS.out HL.out (H.out.up HB1.out) (HF.out.up HB1.out) (HWS.out.up HB1.out) hwl HN.out).mono ?_; rw [HA.out, HBX.out, HC.out]; rintro e w2 ⟨v2, rfl, hv2, hB2⟩; obtain ⟨A2, cap2, hA2⟩ := Sl.form hv2; subst hA2; have HB2 : Hid (Below w.heap.size w w2) := Below.to HB1.out hB2 (Nat.le_refl _); have HV2 := hide hv2; clear hv2 c0 c1 d0 d1; have HX2 := hide (box_to HX1.out hB2); have HY2 := hide (box_to HY1.out hB2); have c0 := cellOf HX2.out 0; have c1 := cellOf HX2.out 1; have d0 := cellOf HY2.out 0; have d1 := cellOf HY2.out 1; clear hB2) | (go_at_call 47; refine (Buildable_any m x _ _ _ _ HS.out (H.out.up HB2.out) HV2.out).mono ?_; rw [HK.out.1, HK.out.2.1, HK.out.2.2]; rintro e w3 ⟨rfl, hB3⟩; have HB3 : Hid (Below w.heap.size w w3) := Below.to HB2.out hB3 (Nat.le_refl _); have HV3 := hide (Sl.up HV2.out hB3); clear c0 c1 d0 d1; have HX3 := hide (box_to HX2.out hB3); have HY3 := hide (box_to HY2.out hB3); have c0 := cellOf HX3.out 0; have c1 := cellOf HX3.out 1; have d0 := cellOf HY3.out 0; have d1 := cellOf HY3.out 1; clear hB3) | (go_at_call 49; refine (sumOf_any m l ws x _ _ _ _ _ _ HS.out HL.out (H.out.up HB3.out) (HF.out.up HB3.out) (HWS.out.up HB3.out) HV3.out HE.out HXL.out hl200 HLW.out HW.out).mono ?_; rw [HSX.out]; rintro e w4 ⟨rfl, hB4⟩; have HB4 : Hid (Below w.heap.size w w4) := Below.to HB3.out hB4 (Nat.le_refl _); have HV4 := hide (Sl.up HV3.out hB4); clear c0 c1 d0 d1; have HX4 := hide (box_to HX3.out hB4); have HY4 := hide (box_to HY3.out hB4); have c0 := cellOf HX4.out 0; have c1 := cellOf HX4.out 1; have d0 := cellOf HY4.out 0; have d1 := cellOf HY4.out 1; clear hB4))
    go_wp2_with (first | (go_at_call 47; refine (Buildable_any m vs _ _ _ _ HS.out (H.out.up HB4.out) (Sl.up HV.out HB4.out)).mono ?_; rw [HQ0.out, HQ1.out, HQ2.out]; rintro e w5 ⟨rfl, hB5⟩; have HB5 : Hid (Below w.heap.size w w5) := Below.to HB4.out hB5 (Nat.le_refl _); have HV5 := hide (Sl.up HV4.out hB5); clear c0 c1 d0 d1; have HX5 := hide (box_to HX4.out hB5); have HY5 := hide (box_to HY4.out hB5); have c0 := cellOf HX5.out 0; have c1 := cellOf HX5.out 1; have d0 := cellOf HY5.out 0; have d1 := cellOf HY5.out 1; clear hB5) | (go_at_call 20; refine (works_any _).mono ?_; rintro e w9 ⟨rfl, hB9⟩))
    go_ret
    exact ⟨rfl, Below.to HB5.out hB9 (Nat.le_refl _)⟩
  · have hq3 : (q2 != 0) = true := by simpa using hq
    clear hno hq
    go_enter Try.func12, Try.ntmps12
    go_upto_region 1 with (fail)
    generalize hw0 : World.alloc _ _ = w0
    obtain ⟨hb0, hb1, hB0, hs0⟩ := alloc2 hw0
    clear hw0
    have HX := hide hb0
    have HY := hide hb1
    have HB0 := hide hB0
    have c0 := cellOf hb0 0
    have c1 := cellOf hb0 1
    have d0 := cellOf hb1 0
    have d1 := cellOf hb1 1
    clear hb0 hb1 hB0 hs0
    go_upto_region 10 with (first | (go_at_call 19; refine (Large_any m _ _ _ (H.out.up HB0.out)).mono ?_; rw [HLG.out]; rintro e w1 ⟨rfl, hB1⟩; have HB1 : Hid (Below w.heap.size w w1) := Below.to HB0.out hB1 (Nat.le_refl _); clear c0 c1 d0 d1; have HX1 := hide (box_to HX.out hB1); have HY1 := hide (box_to HY.out hB1); have c0 := cellOf HX1.out 0; have c1 := cellOf HX1.out 1; have d0 := cellOf HY1.out 0; have d1 := cellOf HY1.out 1; clear hB1) | (go_at_call 21; refine (Most_any m l ws _ _ _ _ _ HS.out HL.out (H.out.up HB1.out) (HF.out.up HB1.out) (HWS.out.up HB1.out) hwl HN.out).mono ?_; rw [HA.out, HBX.out, HC.out]; rintro e w2 ⟨v2, rfl, hv2, hB2⟩; obtain ⟨A2, cap2, hA2⟩ := Sl.form hv2; subst hA2; have HB2 : Hid (Below w.heap.size w w2) := Below.to HB1.out hB2 (Nat.le_refl _); have HV2 := hide hv2; clear hv2 c0 c1 d0 d1; have HX2 := hide (box_to HX1.out hB2); have HY2 := hide (box_to HY1.out hB2); have c0 := cellOf HX2.out 0; have c1 := cellOf HX2.out 1; have d0 := cellOf HY2.out 0; have d1 := cellOf HY2.out 1; clear hB2) | (go_at_call 47; refine (Buildable_any m x _ _ _ _ HS.out (H.out.up HB2.out) HV2.out).mono ?_; rw [HK.out.1, HK.out.2.1, HK.out.2.2]; rintro e w3 ⟨rfl, hB3⟩; have HB3 : Hid (Below w.heap.size w w3) := Below.to HB2.out hB3 (Nat.le_refl _); have HV3 := hide (Sl.up HV2.out hB3); clear c0 c1 d0 d1; have HX3 := hide (box_to HX2.out hB3); have HY3 := hide (box_to HY2.out hB3); have c0 := cellOf HX3.out 0; have c1 := cellOf HX3.out 1; have d0 := cellOf HY3.out 0; have d1 := cellOf HY3.out 1; clear hB3) | (go_at_call 49; refine (sumOf_any m l ws x _ _ _ _ _ _ HS.out HL.out (H.out.up HB3.out) (HF.out.up HB3.out) (HWS.out.up HB3.out) HV3.out HE.out HXL.out hl200 HLW.out HW.out).mono ?_; rw [HSX.out]; rintro e w4 ⟨rfl, hB4⟩; have HB4 : Hid (Below w.heap.size w w4) := Below.to HB3.out hB4 (Nat.le_refl _); have HV4 := hide (Sl.up HV3.out hB4); clear c0 c1 d0 d1; have HX4 := hide (box_to HX3.out hB4); have HY4 := hide (box_to HY3.out hB4); have c0 := cellOf HX4.out 0; have c1 := cellOf HX4.out 1; have d0 := cellOf HY4.out 0; have d1 := cellOf HY4.out 1; clear hB4))
    go_wp2_with (first | (go_at_call 47; refine (Buildable_any m vs _ _ _ _ HS.out (H.out.up HB4.out) (Sl.up HV.out HB4.out)).mono ?_; rw [HQ0.out, HQ1.out, HQ2.out]; rintro e w5 ⟨rfl, hB5⟩; have HB5 : Hid (Below w.heap.size w w5) := Below.to HB4.out hB5 (Nat.le_refl _); have HV5 := hide (Sl.up HV4.out hB5); clear c0 c1 d0 d1; have HX5 := hide (box_to HX4.out hB5); have HY5 := hide (box_to HY4.out hB5); have c0 := cellOf HX5.out 0; have c1 := cellOf HX5.out 1; have d0 := cellOf HY5.out 0; have d1 := cellOf HY5.out 1; clear hB5) | (go_at_call 20; refine (works_any _).mono ?_; rintro e w9 ⟨rfl, hB9⟩))
    go_ret
    exact ⟨rfl, Below.to HB5.out hB9 (Nat.le_refl _)⟩
set_option maxRecDepth 100000 in
set_option maxHeartbeats 4000000 in
theorem optionsGreatest_yes (m : Mo) (l : List (List Int)) (ws : List Int) (vs : List Bool) (ov rv lv wv vv : Value) (w : World) (hs : SizedM m) (hl : Sized l) (h : MoAt w w.heap.size ov rv m) (hf : Forms w w.heap.size lv l) (hws : Ints w w.heap.size wv ws) (hwl : ws.length ≤ maxLen) (hv : Bols w w.heap.size vv vs) (hvl : vs.length ≤ maxLen) (hlg : largeB m = false) (h30 : l.length ≤ 30) (hz : mosE m l ws = 0) (hye : buiE m vs = 0) (hyb : buiB m vs = true) :
    Calls Try.prog 12 #[.agg #[ov, rv], .agg #[lv, wv], vv] w fun e w' => e = .returned (.bool true) ∧ Below w.heap.size w w' := by
  obtain ⟨A, cap, hov⟩ := Sl.form h.o
  obtain ⟨Ar, capr, hrv⟩ := h.r.form
  obtain ⟨Al, capl, hlv⟩ := hf.form
  obtain ⟨Aw, capw, hwv⟩ := Sl.form hws
  obtain ⟨Av, capv, hvv⟩ := Sl.form hv
  have H := hide h
  have HF := hide hf
  have HS := hide hs
  have HL := hide hl
  have HWS := hide hws
  have HV := hide hv
  subst hov hrv hlv hwv hvv
  have HLG := hide hlg
  have hN : m.err = 0 → m.opts.length ≤ 12 := fun he => by have := (large_small hlg he).1; omega
  have HN := hide hN
  have h30' : ¬ (30 : Int) < (l.length : Int) := by omega
  obtain ⟨a, ha⟩ : ∃ z, mosN m l ws = z := ⟨_, rfl⟩
  obtain ⟨x, hb⟩ : ∃ y, mosX m l ws = y := ⟨_, rfl⟩
  obtain ⟨z, hc⟩ : ∃ y, mosE m l ws = y := ⟨_, rfl⟩
  have HA := hide ha
  have HBX := hide hb
  have HC := hide hc
  rw [hc] at hz
  subst hz
  obtain ⟨he, hl200, hlw, hw, h0⟩ := mos_inv hc
  have hfd : (exts m.opts.length []).find? (fun y => valF m l ws y == bestF m l ws) = some x := by
    have hex : ∃ y, (exts m.opts.length []).find? (fun y => valF m l ws y == bestF m l ws) = some y := by
      have h1 := bestF_big hw (show l.length ≤ 1000 by omega) (by rw [satM_true]; exact h0)
      have h2 := maxL_attained _ h1
      rw [List.mem_map] at h2
      obtain ⟨y, hy, hye⟩ := h2
      have h3 : ((exts m.opts.length []).find? (fun y => valF m l ws y == bestF m l ws)).isSome = true := by
        rw [List.find?_isSome]
        exact ⟨y, hy, by show (valF m l ws y == bestF m l ws) = true; rw [beq_iff_eq]; exact hye⟩
      exact Option.isSome_iff_exists.1 h3
    obtain ⟨y, hy⟩ := hex
    rw [hy, ← hb]
    unfold mosX
    rw [hc, if_pos rfl, hy]
    rfl
  have hba : bestF m l ws = a := by rw [← ha]; unfold mosN; rw [hc, if_pos rfl]
  obtain ⟨hxl, hxa, hxs, hlaw⟩ := most_law hw (by omega) h0 hfd
  rw [hba] at hxs hlaw
  have hm := (Mo.okF he).1
  have hN12 := hN hm
  have HK := hide (bui_yes hm hxl hxa)
  have HE := hide he
  have HLW := hide hlw
  have HW := hide hw
  have HXL := hide hxl
  have HSX := hide hxs
  have hx12 : x.length ≤ 12 := by omega
  have n1 : (a != a) = false := by simp
  obtain ⟨q0, hq0⟩ : ∃ q, buiR m vs = q := ⟨_, rfl⟩
  have HQ0 := hide hq0
  have HQ1 := hide hyb
  have HQ2 := hide hye
  obtain ⟨_, hyl, hya⟩ := bui_inv hye hyb
  obtain ⟨hle, hbf⟩ := hlaw vs hyl hya
  have HVL := hide hyl
  obtain ⟨b, hb2⟩ : ∃ b, fsum (vf vs) l ws = b := ⟨_, rfl⟩
  have HSV := hide hb2
  rw [hb2] at hle hbf
  clear h hf hs hl hws hv hlg hN ha hb hc he hlw hw h0 hfd hba hxl hxa hxs hlaw hm hN12 hq0 hye hyb hyl hya hb2
  by_cases hq : b = a
  · have hf1 := hbf hq
    subst hq
    have HBF := hide hf1
    have n2 : (b == b) = true := by simp
    clear hbf hf1
    go_enter Try.func12, Try.ntmps12
    go_upto_region 1 with (fail)
    generalize hw0 : World.alloc _ _ = w0
    obtain ⟨hb0, hb1, hB0, hs0⟩ := alloc2 hw0
    clear hw0
    have HX := hide hb0
    have HY := hide hb1
    have HB0 := hide hB0
    have c0 := cellOf hb0 0
    have c1 := cellOf hb0 1
    have d0 := cellOf hb1 0
    have d1 := cellOf hb1 1
    clear hb0 hb1 hB0 hs0
    go_upto_region 10 with (first | (go_at_call 19; refine (Large_any m _ _ _ (H.out.up HB0.out)).mono ?_; rw [HLG.out]; rintro e w1 ⟨rfl, hB1⟩; have HB1 : Hid (Below w.heap.size w w1) := Below.to HB0.out hB1 (Nat.le_refl _); clear c0 c1 d0 d1; have HX1 := hide (box_to HX.out hB1); have HY1 := hide (box_to HY.out hB1); have c0 := cellOf HX1.out 0; have c1 := cellOf HX1.out 1; have d0 := cellOf HY1.out 0; have d1 := cellOf HY1.out 1; clear hB1) | (go_at_call 21; refine (Most_any m l ws _ _ _ _ _ HS.out HL.out (H.out.up HB1.out) (HF.out.up HB1.out) (HWS.out.up HB1.out) hwl HN.out).mono ?_; rw [HA.out, HBX.out, HC.out]; rintro e w2 ⟨v2, rfl, hv2, hB2⟩; obtain ⟨A2, cap2, hA2⟩ := Sl.form hv2; subst hA2; have HB2 : Hid (Below w.heap.size w w2) := Below.to HB1.out hB2 (Nat.le_refl _); have HV2 := hide hv2; clear hv2 c0 c1 d0 d1; have HX2 := hide (box_to HX1.out hB2); have HY2 := hide (box_to HY1.out hB2); have c0 := cellOf HX2.out 0; have c1 := cellOf HX2.out 1; have d0 := cellOf HY2.out 0; have d1 := cellOf HY2.out 1; clear hB2) | (go_at_call 47; refine (Buildable_any m x _ _ _ _ HS.out (H.out.up HB2.out) HV2.out).mono ?_; rw [HK.out.1, HK.out.2.1, HK.out.2.2]; rintro e w3 ⟨rfl, hB3⟩; have HB3 : Hid (Below w.heap.size w w3) := Below.to HB2.out hB3 (Nat.le_refl _); have HV3 := hide (Sl.up HV2.out hB3); clear c0 c1 d0 d1; have HX3 := hide (box_to HX2.out hB3); have HY3 := hide (box_to HY2.out hB3); have c0 := cellOf HX3.out 0; have c1 := cellOf HX3.out 1; have d0 := cellOf HY3.out 0; have d1 := cellOf HY3.out 1; clear hB3) | (go_at_call 49; refine (sumOf_any m l ws x _ _ _ _ _ _ HS.out HL.out (H.out.up HB3.out) (HF.out.up HB3.out) (HWS.out.up HB3.out) HV3.out HE.out HXL.out hl200 HLW.out HW.out).mono ?_; rw [HSX.out]; rintro e w4 ⟨rfl, hB4⟩; have HB4 : Hid (Below w.heap.size w w4) := Below.to HB3.out hB4 (Nat.le_refl _); have HV4 := hide (Sl.up HV3.out hB4); clear c0 c1 d0 d1; have HX4 := hide (box_to HX3.out hB4); have HY4 := hide (box_to HY3.out hB4); have c0 := cellOf HX4.out 0; have c1 := cellOf HX4.out 1; have d0 := cellOf HY4.out 0; have d1 := cellOf HY4.out 1; clear hB4))
    go_wp2_with (first | (go_at_call 47; refine (Buildable_any m vs _ _ _ _ HS.out (H.out.up HB4.out) (Sl.up HV.out HB4.out)).mono ?_; rw [HQ0.out, HQ1.out, HQ2.out]; rintro e w5 ⟨rfl, hB5⟩; have HB5 : Hid (Below w.heap.size w w5) := Below.to HB4.out hB5 (Nat.le_refl _); have HV5 := hide (Sl.up HV4.out hB5); clear c0 c1 d0 d1; have HX5 := hide (box_to HX4.out hB5); have HY5 := hide (box_to HY4.out hB5); have c0 := cellOf HX5.out 0; have c1 := cellOf HX5.out 1; have d0 := cellOf HY5.out 0; have d1 := cellOf HY5.out 1; clear hB5) | (go_at_call 49; refine (sumOf_any m l ws vs _ _ _ _ _ _ HS.out HL.out (H.out.up HB5.out) (HF.out.up HB5.out) (HWS.out.up HB5.out) (Sl.up HV.out HB5.out) HE.out HVL.out hl200 HLW.out HW.out).mono ?_; rw [HSV.out]; rintro e w6 ⟨rfl, hB6⟩; have HB6 : Hid (Below w.heap.size w w6) := Below.to HB5.out hB6 (Nat.le_refl _); have HV6 := hide (Sl.up HV5.out hB6); clear hB6) | (go_at_call 50; refine (before_any vs x _ _ _ (Sl.up HV.out HB6.out) HV6.out hvl (by unfold maxLen; omega)).mono ?_; rw [HBF.out]; rintro e w7 ⟨rfl, hB7⟩; have HB7 : Hid (Below w.heap.size w w7) := Below.to HB6.out hB7 (Nat.le_refl _); clear hB7) | (go_at_call 20; refine (works_any _).mono ?_; rintro e w9 ⟨rfl, hB9⟩))
    go_ret
    exact ⟨rfl, Below.to HB7.out hB9 (Nat.le_refl _)⟩
  · have hq3 : (b == a) = false := by simpa using hq
    clear hbf hq
    go_enter Try.func12, Try.ntmps12
    go_upto_region 1 with (fail)
    generalize hw0 : World.alloc _ _ = w0
    obtain ⟨hb0, hb1, hB0, hs0⟩ := alloc2 hw0
    clear hw0
    have HX := hide hb0
    have HY := hide hb1
    have HB0 := hide hB0
    have c0 := cellOf hb0 0
    have c1 := cellOf hb0 1
    have d0 := cellOf hb1 0
    have d1 := cellOf hb1 1
    clear hb0 hb1 hB0 hs0
    go_upto_region 10 with (first | (go_at_call 19; refine (Large_any m _ _ _ (H.out.up HB0.out)).mono ?_; rw [HLG.out]; rintro e w1 ⟨rfl, hB1⟩; have HB1 : Hid (Below w.heap.size w w1) := Below.to HB0.out hB1 (Nat.le_refl _); clear c0 c1 d0 d1; have HX1 := hide (box_to HX.out hB1); have HY1 := hide (box_to HY.out hB1); have c0 := cellOf HX1.out 0; have c1 := cellOf HX1.out 1; have d0 := cellOf HY1.out 0; have d1 := cellOf HY1.out 1; clear hB1) | (go_at_call 21; refine (Most_any m l ws _ _ _ _ _ HS.out HL.out (H.out.up HB1.out) (HF.out.up HB1.out) (HWS.out.up HB1.out) hwl HN.out).mono ?_; rw [HA.out, HBX.out, HC.out]; rintro e w2 ⟨v2, rfl, hv2, hB2⟩; obtain ⟨A2, cap2, hA2⟩ := Sl.form hv2; subst hA2; have HB2 : Hid (Below w.heap.size w w2) := Below.to HB1.out hB2 (Nat.le_refl _); have HV2 := hide hv2; clear hv2 c0 c1 d0 d1; have HX2 := hide (box_to HX1.out hB2); have HY2 := hide (box_to HY1.out hB2); have c0 := cellOf HX2.out 0; have c1 := cellOf HX2.out 1; have d0 := cellOf HY2.out 0; have d1 := cellOf HY2.out 1; clear hB2) | (go_at_call 47; refine (Buildable_any m x _ _ _ _ HS.out (H.out.up HB2.out) HV2.out).mono ?_; rw [HK.out.1, HK.out.2.1, HK.out.2.2]; rintro e w3 ⟨rfl, hB3⟩; have HB3 : Hid (Below w.heap.size w w3) := Below.to HB2.out hB3 (Nat.le_refl _); have HV3 := hide (Sl.up HV2.out hB3); clear c0 c1 d0 d1; have HX3 := hide (box_to HX2.out hB3); have HY3 := hide (box_to HY2.out hB3); have c0 := cellOf HX3.out 0; have c1 := cellOf HX3.out 1; have d0 := cellOf HY3.out 0; have d1 := cellOf HY3.out 1; clear hB3) | (go_at_call 49; refine (sumOf_any m l ws x _ _ _ _ _ _ HS.out HL.out (H.out.up HB3.out) (HF.out.up HB3.out) (HWS.out.up HB3.out) HV3.out HE.out HXL.out hl200 HLW.out HW.out).mono ?_; rw [HSX.out]; rintro e w4 ⟨rfl, hB4⟩; have HB4 : Hid (Below w.heap.size w w4) := Below.to HB3.out hB4 (Nat.le_refl _); have HV4 := hide (Sl.up HV3.out hB4); clear c0 c1 d0 d1; have HX4 := hide (box_to HX3.out hB4); have HY4 := hide (box_to HY3.out hB4); have c0 := cellOf HX4.out 0; have c1 := cellOf HX4.out 1; have d0 := cellOf HY4.out 0; have d1 := cellOf HY4.out 1; clear hB4))
    go_wp2_with (first | (go_at_call 47; refine (Buildable_any m vs _ _ _ _ HS.out (H.out.up HB4.out) (Sl.up HV.out HB4.out)).mono ?_; rw [HQ0.out, HQ1.out, HQ2.out]; rintro e w5 ⟨rfl, hB5⟩; have HB5 : Hid (Below w.heap.size w w5) := Below.to HB4.out hB5 (Nat.le_refl _); have HV5 := hide (Sl.up HV4.out hB5); clear c0 c1 d0 d1; have HX5 := hide (box_to HX4.out hB5); have HY5 := hide (box_to HY4.out hB5); have c0 := cellOf HX5.out 0; have c1 := cellOf HX5.out 1; have d0 := cellOf HY5.out 0; have d1 := cellOf HY5.out 1; clear hB5) | (go_at_call 49; refine (sumOf_any m l ws vs _ _ _ _ _ _ HS.out HL.out (H.out.up HB5.out) (HF.out.up HB5.out) (HWS.out.up HB5.out) (Sl.up HV.out HB5.out) HE.out HVL.out hl200 HLW.out HW.out).mono ?_; rw [HSV.out]; rintro e w6 ⟨rfl, hB6⟩; have HB6 : Hid (Below w.heap.size w w6) := Below.to HB5.out hB6 (Nat.le_refl _); have HV6 := hide (Sl.up HV5.out hB6); clear hB6) | (go_at_call 20; refine (works_any _).mono ?_; rintro e w9 ⟨rfl, hB9⟩))
    go_ret
    exact ⟨rfl, Below.to HB6.out hB9 (Nat.le_refl _)⟩
theorem optionsGreatest_walk (m : Mo) (l : List (List Int)) (ws : List Int) (vs : List Bool) (ov rv lv wv vv : Value) (w : World) (hs : SizedM m) (hl : Sized l) (h : MoAt w w.heap.size ov rv m) (hf : Forms w w.heap.size lv l) (hws : Ints w w.heap.size wv ws) (hwl : ws.length ≤ maxLen) (hv : Bols w w.heap.size vv vs) (hvl : vs.length ≤ maxLen) :
    Calls Try.prog 12 #[.agg #[ov, rv], .agg #[lv, wv], vv] w fun e w' => e = .returned (.bool true) ∧ Below w.heap.size w w' := by
  by_cases hfar : largeB m = true ∨ 30 < l.length
  · exact optionsGreatest_far m l ws vs ov rv lv wv vv w hs hl h hf hws hwl hv hvl hfar
  · have hlg : largeB m = false := by cases hl : largeB m with | false => rfl | true => exact absurd (.inl hl) hfar
    by_cases hz : mosE m l ws = 0
    · by_cases hye : buiE m vs = 0
      · cases hyb : buiB m vs with
        | true => exact optionsGreatest_yes m l ws vs ov rv lv wv vv w hs hl h hf hws hwl hv hvl hlg (by omega) hz hye hyb
        | false => exact optionsGreatest_no m l ws vs ov rv lv wv vv w hs hl h hf hws hwl hv hvl hlg (by omega) hz (fun _ => hyb)
      · exact optionsGreatest_no m l ws vs ov rv lv wv vv w hs hl h hf hws hwl hv hvl hlg (by omega) hz (fun e => absurd e hye)
    · exact optionsGreatest_err m l ws vs ov rv lv wv vv w hs hl h hf hws hwl hv hvl hlg (by omega) hz

theorem own_OptionsGreatest : ownKnob Try.prog.godebug = none := by kernel_rfl
theorem laid_OptionsGreatest : laidOutB Try.prog = true := by kernel_rfl
theorem par_OptionsGreatest : ∀ t ∈ Try.f12.params.toList, Try.prog.readableRec t = true ∧ t < Try.prog.types.size := by
  rw [Try.params12]
  intro t ht
  simp only [List.mem_cons, List.not_mem_nil, or_false] at ht
  rcases ht with rfl | rfl | rfl <;> exact ⟨by kernel_rfl, of_decide_eq_true (by kernel_rfl)⟩
set_option maxRecDepth 100000 in
theorem optionsGreatest_lifted (os : Os) (started : os.Started) (H : Type) (enc : TypeId × Value → H) :
    ReturnsInHanded {} Try.checked os 12 .any (Rows.optionsGreatestSpec.pre6 enc Try.prog Try.f12 Rows.optionsGreatestRow.domain false) (Rows.optionsGreatestSpec.post enc Try.prog Try.f12 false true false false) := by
  refine returnsInHanded_of_change (C := Try.checked) own_OptionsGreatest started (by kernel_rfl) Try.func12
    (ChangeSpec.witness6 (enc := enc) (C := Try.checked) false ⟨#[], #[.agg #[.slice none 0 0, .slice none 0 0], .agg #[.slice none 0 0, .slice none 0 0], .slice none 0 0], []⟩ 8 (by kernel_rfl) (by kernel_rfl) (by kernel_rfl) (by kernel_rfl)) ?_
  intro W base args ds gs before hval0 hW hcnd _
  have hval : ∀ (j : Nat) t v, Try.f12.params[j]? = some t → args[j]? = some v → Value.okWide Try.prog W .any base t v := hval0
  have hW' := hW
  obtain ⟨p, q, hA0, hV, rfl, hfz, hnd⟩ := hW
  have hA : DataW.TrodAll enc Try.prog W 0 (fun _ => true) true Try.f12.params.toList args.toList ds p := hA0
  have hAll := hA
  have hltp : ∀ x ∈ p, x.block < W.heap.size := fun x hx => hW'.lt x (List.mem_append_left _ hx)
  rw [Try.params12] at hA hval
  obtain ⟨v0, v1, v2, d0, d1, d2, p0, p1, p2, rfl, rfl, rfl, h0, h1, h2⟩ := trodAll_three hA
  obtain ⟨rfl, rfl⟩ := trodVars_none hV
  obtain ⟨ov, rv, m, rfl, hmo, hsz⟩ := open_model (hval 0 25 v0 rfl rfl) h0
  obtain ⟨lv, wv, l, ws, rfl, hl, hll, hws, hwl⟩ := open_sum (hval 1 69 v1 rfl rfl) h1
  obtain ⟨vs, hvs, hvl⟩ := open_bools (hval 2 29 v2 rfl rfl) h2
  refine (optionsGreatest_walk m l ws vs ov rv lv wv v2 W hsz hll hmo hl hws hwl hvs hvl).mono fun e W2 ⟨he, hb⟩ => ?_
  subst he
  exact ⟨_, rfl, post_of_below (pv := []) hW' (fun _ _ _ => trodAll_mk1 (shut_bool Try.underlying4 _)) (fun sp hsp => trodAll_stays laid_OptionsGreatest hb sp _ _ _ _ par_OptionsGreatest hAll hltp (fun x hx => hsp x (List.mem_append_left _ hx))) (fun _ _ => rfl) rfl hb
    (ok_one (by kernel_rfl) rfl (okWide_bool_mk Try.underlying4 _))⟩
theorem optionsGreatest_holds : Rows.OptionsGreatestSaid :=
  OpenClaim.holds_of_wide 12 Try.f12 rfl rfl rfl rfl rfl rfl rfl ⟨rfl, rfl, rfl, rfl, rfl⟩ rfl rfl rfl rfl rfl (by kernel_rfl) Try.func12 (by kernel_rfl)
    (of_decide_eq_true (by kernel_rfl)) (by unfold Func.isWrapper; first | (rw [if_pos (by decide +kernel)]; kernel_rfl) | (rw [if_neg (by decide +kernel)]; exact ⟨rfl, rfl⟩))
    (fun os started H enc _ => optionsGreatest_lifted os started H enc)
#print axioms optionsGreatest_holds

end Go.Proofs.Ytohofcmikfkilaa

/- Most answers as the elder program does: for every model, formulas and weights; no condition. -/
import Derived.Test.YtohofcmikfkilaaRows
import Derived.Test.YtohofcmikfkilaaGF
import Derived.Test.YtohofcmikfkilaaGI
import Derived.Deep.RegionHeld3
import Derived.Deep.DrawnRows
namespace Go.Proofs.Ytohofcmikfkilaa
open Go.Joins Go.ChangeShapes Go.WideShapes Go.ChangeAt Go.RowKit Go.Deep
set_option linter.unusedVariables false
set_option linter.unusedSimpArgs false
theorem mosX_le {m : Mo} {l : List (List Int)} {ws : List Int} (hN : m.err = 0 → m.opts.length ≤ 12) : (mosX m l ws).length ≤ 1000 := by
  unfold mosX
  split
  · rename_i h0
    cases hf : (exts m.opts.length []).find? (fun y => valF m l ws y == bestF m l ws) with
    | none => simp
    | some x =>
      have h1 := exts_len _ _ _ (List.mem_of_find?_eq_some hf)
      have hm : m.err = 0 := by
        unfold mosE at h0
        split at h0
        · rename_i h2; exact absurd h0 h2
        · rename_i h2
          unfold frmE at h2
          by_cases h3 : m.err = 0
          · exact h3
          · rw [if_pos h3] at h2
            exact absurd (by omega) h3
      have h4 := hN hm
      simp at h1 ⊢
      omega
  · simp
set_option maxRecDepth 100000 in
set_option maxHeartbeats 4000000 in
theorem optionsMost_far (m : Mo) (l : List (List Int)) (ws : List Int) (ov rv lv wv : Value) (w : World) (hs : SizedM m) (hl : Sized l) (h : MoAt w w.heap.size ov rv m) (hf : Forms w w.heap.size lv l) (hws : Ints w w.heap.size wv ws) (hwl : ws.length ≤ maxLen) (hfar : largeB m = true ∨ 30 < l.length ∧ l.length ≤ 200) :
    Calls Try.prog 3 #[.agg #[ov, rv], lv, wv] w fun e w' => e = .returned (.bool true) ∧ Below w.heap.size w w' := by
  obtain ⟨A, cap, hov⟩ := Sl.form h.o
  obtain ⟨Ar, capr, hrv⟩ := h.r.form
  obtain ⟨Al, capl, hlv⟩ := hf.form
  obtain ⟨Aw, capw, hwv⟩ := Sl.form hws
  have H := hide h
  have HF := hide hf
  have HS := hide hs
  have HL := hide hl
  have HWS := hide hws
  subst hov hrv hlv hwv
  cases hlg : largeB m with
  | true =>
    have HLG := hide hlg
    clear h hf hs hl hws hlg hfar
    go_enter Try.func3, Try.ntmps3
    go_upto_region 1 with (fail)
    generalize hw0 : World.alloc _ _ = w0
    obtain ⟨hb0, hB0, hs0⟩ := alloc1 hw0
    clear hw0
    have HB0 := hide hB0
    have c0 := cellOf hb0 0
    have c1 := cellOf hb0 1
    clear hb0 hB0 hs0
    go_wp2_with (first | (go_at_call 19; refine (Large_any m _ _ _ (H.out.up HB0.out)).mono ?_; rw [HLG.out]; rintro e w1 ⟨rfl, hB1⟩; have HB1 : Hid (Below w.heap.size w w1) := Below.to HB0.out hB1 (Nat.le_refl _); clear hB1 c0 c1) | (go_at_call 20; refine (works_any _).mono ?_; rintro e w5 ⟨rfl, hB5⟩))
    go_ret
    exact ⟨rfl, Below.to HB1.out hB5 (Nat.le_refl _)⟩
  | false =>
    have h30 : (30 : Int) < (l.length : Int) := by rw [hlg] at hfar; simp at hfar; omega
    have h200 : (l.length : Int) ≤ 200 := by rw [hlg] at hfar; simp at hfar; omega
    have HLG := hide hlg
    clear h hf hs hl hws hlg hfar
    go_enter Try.func3, Try.ntmps3
    go_upto_region 1 with (fail)
    generalize hw0 : World.alloc _ _ = w0
    obtain ⟨hb0, hB0, hs0⟩ := alloc1 hw0
    clear hw0
    have HB0 := hide hB0
    have c0 := cellOf hb0 0
    have c1 := cellOf hb0 1
    clear hb0 hB0 hs0
    go_wp2_with (first | (go_at_call 19; refine (Large_any m _ _ _ (H.out.up HB0.out)).mono ?_; rw [HLG.out]; rintro e w1 ⟨rfl, hB1⟩; have HB1 : Hid (Below w.heap.size w w1) := Below.to HB0.out hB1 (Nat.le_refl _); clear hB1 c0 c1) | (go_at_call 20; refine (works_any _).mono ?_; rintro e w5 ⟨rfl, hB5⟩))
    go_ret
    exact ⟨rfl, Below.to HB1.out hB5 (Nat.le_refl _)⟩
set_option maxRecDepth 100000 in
set_option maxHeartbeats 4000000 in
theorem optionsMost_near (m : Mo) (l : List (List Int)) (ws : List Int) (ov rv lv wv : Value) (w : World) (hs : SizedM m) (hl : Sized l) (h : MoAt w w.heap.size ov rv m) (hf : Forms w w.heap.size lv l) (hws : Ints w w.heap.size wv ws) (hwl : ws.length ≤ maxLen) (hlg : largeB m = false) (hnear : l.length ≤ 30 ∨ 200 < l.length) :
    Calls Try.prog 3 #[.agg #[ov, rv], lv, wv] w fun e w' => e = .returned (.bool true) ∧ Below w.heap.size w w' := by
  obtain ⟨A, cap, hov⟩ := Sl.form h.o
  obtain ⟨Ar, capr, hrv⟩ := h.r.form
  obtain ⟨Al, capl, hlv⟩ := hf.form
  obtain ⟨Aw, capw, hwv⟩ := Sl.form hws
  have H := hide h
  have HF := hide hf
  have HS := hide hs
  have HL := hide hl
  have HWS := hide hws
  subst hov hrv hlv hwv
  have HLG := hide hlg
  have hN : m.err = 0 → m.opts.length ≤ 12 := fun he => by have := (large_small hlg he).1; omega
  obtain ⟨a, ha⟩ : ∃ z, mosN m l ws = z := ⟨_, rfl⟩
  obtain ⟨x, hb⟩ : ∃ y, mosX m l ws = y := ⟨_, rfl⟩
  obtain ⟨z, hc⟩ : ∃ y, mosE m l ws = y := ⟨_, rfl⟩
  have hxl : x.length ≤ 1000 := by rw [← hb]; exact mosX_le hN
  have HA := hide ha
  have HB := hide hb
  have HC := hide hc
  have HN := hide hN
  have n1 : (a == a) = true := by simp
  have n2 : (z == z) = true := by simp
  clear h hf hs hl hws ha hb hc hlg hN
  by_cases h30 : (30 : Int) < (l.length : Int)
  · have h200 : ¬ (l.length : Int) ≤ 200 := by omega
    clear hnear
    go_enter Try.func3, Try.ntmps3
    go_upto_region 1 with (fail)
    generalize hw0 : World.alloc _ _ = w0
    obtain ⟨hb0, hB0, hs0⟩ := alloc1 hw0
    clear hw0
    have HX := hide hb0
    have HB0 := hide hB0
    have c0 := cellOf hb0 0
    have c1 := cellOf hb0 1
    clear hb0 hB0 hs0
    go_upto_region 3 with (go_at_call 19; refine (Large_any m _ _ _ (H.out.up HB0.out)).mono ?_; rw [HLG.out]; rintro e w1 ⟨rfl, hB1⟩; have HB1 : Hid (Below w.heap.size w w1) := Below.to HB0.out hB1 (Nat.le_refl _); have HX1 := hide (box_to HX.out hB1); have x0 := cellOf HX1.out 0; have x1 := cellOf HX1.out 1; clear hB1 c0 c1)
    go_upto_region 4 with (go_at_call 21; refine (Most_any m l ws _ _ _ _ _ HS.out HL.out (H.out.up HB1.out) (HF.out.up HB1.out) (HWS.out.up HB1.out) hwl HN.out).mono ?_; rw [HA.out, HB.out, HC.out]; rintro e w2 ⟨v2, rfl, hv2, hB2⟩; have HB2 : Hid (Below w.heap.size w w2) := Below.to HB1.out hB2 (Nat.le_refl _); have HX2 := hide (box_to HX1.out hB2); have HV2 := hide hv2; have y0 := cellOf HX2.out 0; have y1 := cellOf HX2.out 1; clear hB2 hv2 x0 x1)
    go_upto_region 5 with (go_at_call 22; refine (rMost_any m l ws _ _ _ _ _ HS.out HL.out (H.out.up HB2.out) (HF.out.up HB2.out) (HWS.out.up HB2.out) hwl HN.out).mono ?_; rw [HA.out, HB.out, HC.out]; rintro e w3 ⟨v3, rfl, hv3, hB3⟩; have HB3 : Hid (Below w.heap.size w w3) := Below.to HB2.out hB3 (Nat.le_refl _); have HV3 := hide hv3; have HV23 := hide (Sl.up HV2.out hB3); clear hB3 hv3 y0 y1)
    have hsv := SameVariant_any x x _ _ _ HV23.out HV3.out hxl (by unfold maxLen; omega)
    rw [show decide (x = x) = true from decide_eq_true rfl] at hsv
    have HSV := hide hsv
    clear hsv
    go_wp2_with (first | (go_at_call 23; refine HSV.out.mono ?_; rintro e w6 ⟨rfl, hB6⟩) | (go_at_call 20; refine (works_any _).mono ?_; rintro e w7 ⟨rfl, hB7⟩))
    go_ret
    exact ⟨rfl, Below.to (Below.to HB3.out hB6 (Nat.le_refl _)) hB7 (Nat.le_refl _)⟩
  · clear hnear
    go_enter Try.func3, Try.ntmps3
    go_upto_region 1 with (fail)
    generalize hw0 : World.alloc _ _ = w0
    obtain ⟨hb0, hB0, hs0⟩ := alloc1 hw0
    clear hw0
    have HX := hide hb0
    have HB0 := hide hB0
    have c0 := cellOf hb0 0
    have c1 := cellOf hb0 1
    clear hb0 hB0 hs0
    go_upto_region 3 with (go_at_call 19; refine (Large_any m _ _ _ (H.out.up HB0.out)).mono ?_; rw [HLG.out]; rintro e w1 ⟨rfl, hB1⟩; have HB1 : Hid (Below w.heap.size w w1) := Below.to HB0.out hB1 (Nat.le_refl _); have HX1 := hide (box_to HX.out hB1); have x0 := cellOf HX1.out 0; have x1 := cellOf HX1.out 1; clear hB1 c0 c1)
    go_upto_region 4 with (go_at_call 21; refine (Most_any m l ws _ _ _ _ _ HS.out HL.out (H.out.up HB1.out) (HF.out.up HB1.out) (HWS.out.up HB1.out) hwl HN.out).mono ?_; rw [HA.out, HB.out, HC.out]; rintro e w2 ⟨v2, rfl, hv2, hB2⟩; have HB2 : Hid (Below w.heap.size w w2) := Below.to HB1.out hB2 (Nat.le_refl _); have HX2 := hide (box_to HX1.out hB2); have HV2 := hide hv2; have y0 := cellOf HX2.out 0; have y1 := cellOf HX2.out 1; clear hB2 hv2 x0 x1)
    go_upto_region 5 with (go_at_call 22; refine (rMost_any m l ws _ _ _ _ _ HS.out HL.out (H.out.up HB2.out) (HF.out.up HB2.out) (HWS.out.up HB2.out) hwl HN.out).mono ?_; rw [HA.out, HB.out, HC.out]; rintro e w3 ⟨v3, rfl, hv3, hB3⟩; have HB3 : Hid (Below w.heap.size w w3) := Below.to HB2.out hB3 (Nat.le_refl _); have HV3 := hide hv3; have HV23 := hide (Sl.up HV2.out hB3); clear hB3 hv3 y0 y1)
    have hsv := SameVariant_any x x _ _ _ HV23.out HV3.out hxl (by unfold maxLen; omega)
    rw [show decide (x = x) = true from decide_eq_true rfl] at hsv
    have HSV := hide hsv
    clear hsv
    go_wp2_with (first | (go_at_call 23; refine HSV.out.mono ?_; rintro e w6 ⟨rfl, hB6⟩) | (go_at_call 20; refine (works_any _).mono ?_; rintro e w7 ⟨rfl, hB7⟩))
    go_ret
    exact ⟨rfl, Below.to (Below.to HB3.out hB6 (Nat.le_refl _)) hB7 (Nat.le_refl _)⟩

theorem optionsMost_walk (m : Mo) (l : List (List Int)) (ws : List Int) (ov rv lv wv : Value) (w : World) (hs : SizedM m) (hl : Sized l) (h : MoAt w w.heap.size ov rv m) (hf : Forms w w.heap.size lv l) (hws : Ints w w.heap.size wv ws) (hwl : ws.length ≤ maxLen) :
    Calls Try.prog 3 #[.agg #[ov, rv], lv, wv] w fun e w' => e = .returned (.bool true) ∧ Below w.heap.size w w' := by
  by_cases hfar : largeB m = true ∨ 30 < l.length ∧ l.length ≤ 200
  · exact optionsMost_far m l ws ov rv lv wv w hs hl h hf hws hwl hfar
  · exact optionsMost_near m l ws ov rv lv wv w hs hl h hf hws hwl (by cases hl : largeB m with | false => rfl | true => exact absurd (.inl hl) hfar) (by omega)

theorem own_OptionsMost : ownKnob Try.prog.godebug = none := by kernel_rfl
theorem laid_OptionsMost : laidOutB Try.prog = true := by kernel_rfl
theorem par_OptionsMost : ∀ t ∈ Try.f3.params.toList, Try.prog.readableRec t = true ∧ t < Try.prog.types.size := by
  rw [Try.params3]
  intro t ht
  simp only [List.mem_cons, List.not_mem_nil, or_false] at ht
  rcases ht with rfl | rfl | rfl <;> exact ⟨by kernel_rfl, of_decide_eq_true (by kernel_rfl)⟩
set_option maxRecDepth 100000 in
theorem optionsMost_lifted (os : Os) (started : os.Started) (H : Type) (enc : TypeId × Value → H) :
    ReturnsInHanded {} Try.checked os 3 .any (Rows.optionsMostSpec.pre6 enc Try.prog Try.f3 Rows.optionsMostRow.domain false) (Rows.optionsMostSpec.post enc Try.prog Try.f3 false true false false) := by
  refine returnsInHanded_of_change (C := Try.checked) own_OptionsMost started (by kernel_rfl) Try.func3
    (ChangeSpec.witness6 (enc := enc) (C := Try.checked) false ⟨#[], #[.agg #[.slice none 0 0, .slice none 0 0], .slice none 0 0, .slice none 0 0], []⟩ 8 (by kernel_rfl) (by kernel_rfl) (by kernel_rfl) (by kernel_rfl)) ?_
  intro W base args ds gs before hval0 hW hcnd _
  have hval : ∀ (j : Nat) t v, Try.f3.params[j]? = some t → args[j]? = some v → Value.okWide Try.prog W .any base t v := hval0
  have hW' := hW
  obtain ⟨p, q, hA0, hV, rfl, hfz, hnd⟩ := hW
  have hA : DataW.TrodAll enc Try.prog W 0 (fun _ => true) true Try.f3.params.toList args.toList ds p := hA0
  have hAll := hA
  have hltp : ∀ x ∈ p, x.block < W.heap.size := fun x hx => hW'.lt x (List.mem_append_left _ hx)
  rw [Try.params3] at hA hval
  obtain ⟨v0, v1, v2, d0, d1, d2, p0, p1, p2, rfl, rfl, rfl, h0, h1, h2⟩ := trodAll_three hA
  obtain ⟨rfl, rfl⟩ := trodVars_none hV
  obtain ⟨ov, rv, m, rfl, hmo, hsz⟩ := open_model (hval 0 25 v0 rfl rfl) h0
  obtain ⟨l, hl, hll⟩ := open_forms Try.underlying23 (hval 1 23 v1 rfl rfl) h1
  obtain ⟨ws, hws, hwl, _⟩ := open_formula Try.underlying26 (hval 2 26 v2 rfl rfl) h2
  refine (optionsMost_walk m l ws ov rv v1 v2 W hsz hll hmo hl hws hwl).mono fun e W2 ⟨he, hb⟩ => ?_
  subst he
  exact ⟨_, rfl, post_of_below (pv := []) hW' (fun _ _ _ => trodAll_mk1 (shut_bool Try.underlying4 _)) (fun sp hsp => trodAll_stays laid_OptionsMost hb sp _ _ _ _ par_OptionsMost hAll hltp (fun x hx => hsp x (List.mem_append_left _ hx))) (fun _ _ => rfl) rfl hb
    (ok_one (by kernel_rfl) rfl (okWide_bool_mk Try.underlying4 _))⟩
theorem optionsMost_holds : Rows.OptionsMostSaid :=
  OpenClaim.holds_of_wide 3 Try.f3 rfl rfl rfl rfl rfl rfl rfl ⟨rfl, rfl, rfl, rfl, rfl⟩ rfl rfl rfl rfl rfl (by kernel_rfl) Try.func3 (by kernel_rfl)
    (of_decide_eq_true (by kernel_rfl)) (by unfold Func.isWrapper; first | (rw [if_pos (by decide +kernel)]; kernel_rfl) | (rw [if_neg (by decide +kernel)]; exact ⟨rfl, rfl⟩))
    (fun os started H enc _ => optionsMost_lifted os started H enc)
#print axioms optionsMost_holds

end Go.Proofs.Ytohofcmikfkilaa

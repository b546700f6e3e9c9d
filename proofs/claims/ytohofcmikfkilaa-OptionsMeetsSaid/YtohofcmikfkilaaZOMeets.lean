/- Meets and Implies answer as the elder program does: for every model and formulas; no condition. -/
import Derived.Test.YtohofcmikfkilaaRows
import Derived.Test.YtohofcmikfkilaaGF
import Derived.Test.YtohofcmikfkilaaGG
import Derived.Test.YtohofcmikfkilaaGJ
import Derived.Deep.RegionHeld3
import Derived.Deep.DrawnRows
namespace Go.Proofs.Ytohofcmikfkilaa
open Go.Joins Go.ChangeShapes Go.WideShapes Go.ChangeAt Go.RowKit Go.Deep
set_option maxRecDepth 100000
set_option linter.unusedVariables false
set_option linter.unusedSimpArgs false
set_option maxRecDepth 100000 in
set_option maxHeartbeats 8000000 in
theorem optionsMeets_far (m : Mo) (l : List (List Int)) (f g : List Int) (ov rv lv fv gv : Value) (w : World) (hs : SizedM m) (hl : Sized l) (h : MoAt w w.heap.size ov rv m) (hf : Forms w w.heap.size lv l) (hif : Ints w w.heap.size fv f) (hfl : f.length ≤ maxLen) (hig : Ints w w.heap.size gv g) (hgl : g.length ≤ maxLen) (hfar : largeB m = true ∨ 30 < l.length ∧ l.length ≤ 200) :
    Calls Try.prog 10 #[.agg #[ov, rv], lv, .agg #[fv, gv]] w fun e w' => e = .returned (.bool true) ∧ Below w.heap.size w w' := by
  obtain ⟨A, cap, hov⟩ := Sl.form h.o
  obtain ⟨Ar, capr, hrv⟩ := h.r.form
  obtain ⟨Al, capl, hlv⟩ := hf.form
  obtain ⟨Af, capf, hfv⟩ := Sl.form hif
  obtain ⟨Ag, capg, hgv⟩ := Sl.form hig
  have H := hide h
  have HF := hide hf
  have HS := hide hs
  have HL := hide hl
  have HIF := hide hif
  have HIG := hide hig
  subst hov hrv hlv hfv hgv
  cases hlg : largeB m with
  | true =>
    have HLG := hide hlg
    clear h hf hs hl hif hig hlg hfar
    go_enter Try.func10, Try.ntmps10
    go_upto_region 1 with (fail)
    generalize hw0 : World.alloc _ _ = w0
    obtain ⟨hb0, hb1, hB0, hs0⟩ := alloc2 hw0
    clear hw0
    have HX := hide hb0
    have HY := hide hb1
    have HB0 := hide hB0
    have c0 := cellOf hb0 0
    have c1 := cellOf hb0 1
    have d0 := cellOf hb1 0
    have d1 := cellOf hb1 1
    clear hb0 hb1 hB0 hs0
    go_wp2_with (first | (go_at_call 19; refine (Large_any m _ _ _ (H.out.up HB0.out)).mono ?_; rw [HLG.out]; rintro e w1 ⟨rfl, hB1⟩; have HB1 : Hid (Below w.heap.size w w1) := Below.to HB0.out hB1 (Nat.le_refl _); clear c0 c1 d0 d1; have HX1 := hide (box_to HX.out hB1); have HY1 := hide (box_to HY.out hB1); have c0 := cellOf HX1.out 0; have c1 := cellOf HX1.out 1; have d0 := cellOf HY1.out 0; have d1 := cellOf HY1.out 1; clear hB1) | (go_at_call 20; refine (works_any _).mono ?_; rintro e w99 ⟨rfl, hB99⟩))
    go_ret
    exact ⟨rfl, Below.to HB1.out hB99 (Nat.le_refl _)⟩
  | false =>
    have h30 : (30 : Int) < (l.length : Int) := by rw [hlg] at hfar; simp at hfar; omega
    have h200 : (l.length : Int) ≤ 200 := by rw [hlg] at hfar; simp at hfar; omega
    have HLG := hide hlg
    clear h hf hs hl hif hig hlg hfar
    go_enter Try.func10, Try.ntmps10
    go_upto_region 1 with (fail)
    generalize hw0 : World.alloc _ _ = w0
    obtain ⟨hb0, hb1, hB0, hs0⟩ := alloc2 hw0
    clear hw0
    have HX := hide hb0
    have HY := hide hb1
    have HB0 := hide hB0
    have c0 := cellOf hb0 0
    have c1 := cellOf hb0 1
    have d0 := cellOf hb1 0
    have d1 := cellOf hb1 1
    clear hb0 hb1 hB0 hs0
    go_wp2_with (first | (go_at_call 19; refine (Large_any m _ _ _ (H.out.up HB0.out)).mono ?_; rw [HLG.out]; rintro e w1 ⟨rfl, hB1⟩; have HB1 : Hid (Below w.heap.size w w1) := Below.to HB0.out hB1 (Nat.le_refl _); clear c0 c1 d0 d1; have HX1 := hide (box_to HX.out hB1); have HY1 := hide (box_to HY.out hB1); have c0 := cellOf HX1.out 0; have c1 := cellOf HX1.out 1; have d0 := cellOf HY1.out 0; have d1 := cellOf HY1.out 1; clear hB1) | (go_at_call 20; refine (works_any _).mono ?_; rintro e w99 ⟨rfl, hB99⟩))
    go_ret
    exact ⟨rfl, Below.to HB1.out hB99 (Nat.le_refl _)⟩
set_option maxRecDepth 100000 in
set_option maxHeartbeats 8000000 in
theorem optionsMeets_near (m : Mo) (l : List (List Int)) (f g : List Int) (ov rv lv fv gv : Value) (w : World) (hs : SizedM m) (hl : Sized l) (h : MoAt w w.heap.size ov rv m) (hf : Forms w w.heap.size lv l) (hif : Ints w w.heap.size fv f) (hfl : f.length ≤ maxLen) (hig : Ints w w.heap.size gv g) (hgl : g.length ≤ maxLen) (hlg : largeB m = false) (hnear : l.length ≤ 30 ∨ 200 < l.length) :
    Calls Try.prog 10 #[.agg #[ov, rv], lv, .agg #[fv, gv]] w fun e w' => e = .returned (.bool true) ∧ Below w.heap.size w w' := by
  obtain ⟨A, cap, hov⟩ := Sl.form h.o
  obtain ⟨Ar, capr, hrv⟩ := h.r.form
  obtain ⟨Al, capl, hlv⟩ := hf.form
  obtain ⟨Af, capf, hfv⟩ := Sl.form hif
  obtain ⟨Ag, capg, hgv⟩ := Sl.form hig
  have H := hide h
  have HF := hide hf
  have HS := hide hs
  have HL := hide hl
  have HIF := hide hif
  have HIG := hide hig
  subst hov hrv hlv hfv hgv
  have HLG := hide hlg
  have hN : m.err = 0 → m.opts.length ≤ 12 := fun he => by have := (large_small hlg he).1; omega
  have hxl0 := meeX_le (l := l) hN
  have hyl0 := impX_le (f := f) (g := g) hN
  obtain ⟨x, hx1⟩ : ∃ z, meeX m l = z := ⟨_, rfl⟩
  obtain ⟨a, hx2⟩ : ∃ y, meeB m l = y := ⟨_, rfl⟩
  obtain ⟨z, hx3⟩ : ∃ y, frmE m l = y := ⟨_, rfl⟩
  obtain ⟨y, hy1⟩ : ∃ z, impX m f g = z := ⟨_, rfl⟩
  obtain ⟨b, hy2⟩ : ∃ y, impB m f g = y := ⟨_, rfl⟩
  obtain ⟨u, hy3⟩ : ∃ y, m.errF [f, g] = y := ⟨_, rfl⟩
  have hxl : x.length ≤ 1000 := by rw [← hx1]; exact hxl0
  have hyl : y.length ≤ 1000 := by rw [← hy1]; exact hyl0
  have HX1e := hide hx1
  have HX2e := hide hx2
  have HX3e := hide hx3
  have HY1e := hide hy1
  have HY2e := hide hy2
  have HY3e := hide hy3
  have HN := hide hN
  have n1 : (!(a == a)) = false := by simp
  have n2 : (z != z) = false := by simp
  have n3 : (b == b) = true := by simp
  have n4 : (u == u) = true := by simp
  clear h hf hs hl hif hig hx1 hx2 hx3 hy1 hy2 hy3 hlg hN hxl0 hyl0
  by_cases h30 : (30 : Int) < (l.length : Int)
  · have h200 : ¬ (l.length : Int) ≤ 200 := by omega
    clear hnear
    go_enter Try.func10, Try.ntmps10
    go_upto_region 1 with (fail)
    generalize hw0 : World.alloc _ _ = w0
    obtain ⟨hb0, hb1, hB0, hs0⟩ := alloc2 hw0
    clear hw0
    have HX := hide hb0
    have HY := hide hb1
    have HB0 := hide hB0
    have c0 := cellOf hb0 0
    have c1 := cellOf hb0 1
    have d0 := cellOf hb1 0
    have d1 := cellOf hb1 1
    clear hb0 hb1 hB0 hs0
    go_upto_region 3 with (go_at_call 19; refine (Large_any m _ _ _ (H.out.up HB0.out)).mono ?_; rw [HLG.out]; rintro e w1 ⟨rfl, hB1⟩; have HB1 : Hid (Below w.heap.size w w1) := Below.to HB0.out hB1 (Nat.le_refl _); clear c0 c1 d0 d1; have HX1 := hide (box_to HX.out hB1); have HY1 := hide (box_to HY.out hB1); have c0 := cellOf HX1.out 0; have c1 := cellOf HX1.out 1; have d0 := cellOf HY1.out 0; have d1 := cellOf HY1.out 1; clear hB1)
    go_upto_region 4 with (go_at_call 41; refine (Meets_any m l _ _ _ _ HS.out HL.out (H.out.up HB1.out) (HF.out.up HB1.out) HN.out).mono ?_; rw [HX1e.out, HX2e.out, HX3e.out]; rintro e w2 ⟨v2, rfl, hv2, hB2⟩; have HB2 : Hid (Below w.heap.size w w2) := Below.to HB1.out hB2 (Nat.le_refl _); clear c0 c1 d0 d1; have HX2 := hide (box_to HX1.out hB2); have HY2 := hide (box_to HY1.out hB2); have c0 := cellOf HX2.out 0; have c1 := cellOf HX2.out 1; have d0 := cellOf HY2.out 0; have d1 := cellOf HY2.out 1; have HV2 := hide hv2; clear hv2; clear hB2)
    go_upto_region 5 with (go_at_call 42; refine (rMeets_any m l _ _ _ _ HS.out HL.out (H.out.up HB2.out) (HF.out.up HB2.out) HN.out).mono ?_; rw [HX1e.out, HX2e.out, HX3e.out]; rintro e w3 ⟨v3, rfl, hv3, hB3⟩; have HB3 : Hid (Below w.heap.size w w3) := Below.to HB2.out hB3 (Nat.le_refl _); clear c0 c1 d0 d1; have HX3 := hide (box_to HX2.out hB3); have HY3 := hide (box_to HY2.out hB3); have c0 := cellOf HX3.out 0; have c1 := cellOf HX3.out 1; have d0 := cellOf HY3.out 0; have d1 := cellOf HY3.out 1; have HV3 := hide hv3; have HV23 := hide (Sl.up HV2.out hB3); clear hv3; clear hB3)
    have hsv := SameVariant_any x x _ _ _ HV23.out HV3.out hxl (by unfold maxLen; omega)
    rw [show decide (x = x) = true from decide_eq_true rfl] at hsv
    have HSV1 := hide hsv
    clear hsv
    go_upto_region 7 with (go_at_call 23; refine HSV1.out.mono ?_; rintro e w4 ⟨rfl, hB4⟩; have HB4 : Hid (Below w.heap.size w w4) := Below.to HB3.out hB4 (Nat.le_refl _); clear c0 c1 d0 d1; have HX4 := hide (box_to HX3.out hB4); have HY4 := hide (box_to HY3.out hB4); have c0 := cellOf HX4.out 0; have c1 := cellOf HX4.out 1; have d0 := cellOf HY4.out 0; have d1 := cellOf HY4.out 1; clear hB4)
    go_upto_region 8 with (go_at_call 43; refine (Implies_any m f g _ _ _ _ _ HS.out hfl hgl (H.out.up HB4.out) (HIF.out.up HB4.out) (HIG.out.up HB4.out) HN.out).mono ?_; rw [HY1e.out, HY2e.out, HY3e.out]; rintro e w5 ⟨v5, rfl, hv5, hB5⟩; have HB5 : Hid (Below w.heap.size w w5) := Below.to HB4.out hB5 (Nat.le_refl _); clear c0 c1 d0 d1; have HX5 := hide (box_to HX4.out hB5); have HY5 := hide (box_to HY4.out hB5); have c0 := cellOf HX5.out 0; have c1 := cellOf HX5.out 1; have d0 := cellOf HY5.out 0; have d1 := cellOf HY5.out 1; have HV5 := hide hv5; clear hv5; clear hB5)
    go_upto_region 9 with (go_at_call 44; refine (rImplies_any m f g _ _ _ _ _ HS.out hfl hgl (H.out.up HB5.out) (HIF.out.up HB5.out) (HIG.out.up HB5.out) HN.out).mono ?_; rw [HY1e.out, HY2e.out, HY3e.out]; rintro e w6 ⟨v6, rfl, hv6, hB6⟩; have HB6 : Hid (Below w.heap.size w w6) := Below.to HB5.out hB6 (Nat.le_refl _); have HV6 := hide hv6; have HV56 := hide (Sl.up HV5.out hB6); clear hv6; clear hB6)
    have hsv := SameVariant_any y y _ _ _ HV56.out HV6.out hyl (by unfold maxLen; omega)
    rw [show decide (y = y) = true from decide_eq_true rfl] at hsv
    have HSV2 := hide hsv
    clear hsv
    go_wp2_with (first | (go_at_call 23; refine HSV2.out.mono ?_; rintro e w7 ⟨rfl, hB7⟩; have HB7 : Hid (Below w.heap.size w w7) := Below.to HB6.out hB7 (Nat.le_refl _); clear hB7) | (go_at_call 20; refine (works_any _).mono ?_; rintro e w99 ⟨rfl, hB99⟩))
    go_ret
    exact ⟨rfl, Below.to HB7.out hB99 (Nat.le_refl _)⟩
  · clear hnear
    go_enter Try.func10, Try.ntmps10
    go_upto_region 1 with (fail)
    generalize hw0 : World.alloc _ _ = w0
    obtain ⟨hb0, hb1, hB0, hs0⟩ := alloc2 hw0
    clear hw0
    have HX := hide hb0
    have HY := hide hb1
    have HB0 := hide hB0
    have c0 := cellOf hb0 0
    have c1 := cellOf hb0 1
    have d0 := cellOf hb1 0
    have d1 := cellOf hb1 1
    clear hb0 hb1 hB0 hs0
    go_upto_region 3 with (go_at_call 19; refine (Large_any m _ _ _ (H.out.up HB0.out)).mono ?_; rw [HLG.out]; rintro e w1 ⟨rfl, hB1⟩; have HB1 : Hid (Below w.heap.size w w1) := Below.to HB0.out hB1 (Nat.le_refl _); clear c0 c1 d0 d1; have HX1 := hide (box_to HX.out hB1); have HY1 := hide (box_to HY.out hB1); have c0 := cellOf HX1.out 0; have c1 := cellOf HX1.out 1; have d0 := cellOf HY1.out 0; have d1 := cellOf HY1.out 1; clear hB1)
    go_upto_region 4 with (go_at_call 41; refine (Meets_any m l _ _ _ _ HS.out HL.out (H.out.up HB1.out) (HF.out.up HB1.out) HN.out).mono ?_; rw [HX1e.out, HX2e.out, HX3e.out]; rintro e w2 ⟨v2, rfl, hv2, hB2⟩; have HB2 : Hid (Below w.heap.size w w2) := Below.to HB1.out hB2 (Nat.le_refl _); clear c0 c1 d0 d1; have HX2 := hide (box_to HX1.out hB2); have HY2 := hide (box_to HY1.out hB2); have c0 := cellOf HX2.out 0; have c1 := cellOf HX2.out 1; have d0 := cellOf HY2.out 0; have d1 := cellOf HY2.out 1; have HV2 := hide hv2; clear hv2; clear hB2)
    go_upto_region 5 with (go_at_call 42; refine (rMeets_any m l _ _ _ _ HS.out HL.out (H.out.up HB2.out) (HF.out.up HB2.out) HN.out).mono ?_; rw [HX1e.out, HX2e.out, HX3e.out]; rintro e w3 ⟨v3, rfl, hv3, hB3⟩; have HB3 : Hid (Below w.heap.size w w3) := Below.to HB2.out hB3 (Nat.le_refl _); clear c0 c1 d0 d1; have HX3 := hide (box_to HX2.out hB3); have HY3 := hide (box_to HY2.out hB3); have c0 := cellOf HX3.out 0; have c1 := cellOf HX3.out 1; have d0 := cellOf HY3.out 0; have d1 := cellOf HY3.out 1; have HV3 := hide hv3; have HV23 := hide (Sl.up HV2.out hB3); clear hv3; clear hB3)
    have hsv := SameVariant_any x x _ _ _ HV23.out HV3.out hxl (by unfold maxLen; omega)
    rw [show decide (x = x) = true from decide_eq_true rfl] at hsv
    have HSV1 := hide hsv
    clear hsv
    go_upto_region 7 with (go_at_call 23; refine HSV1.out.mono ?_; rintro e w4 ⟨rfl, hB4⟩; have HB4 : Hid (Below w.heap.size w w4) := Below.to HB3.out hB4 (Nat.le_refl _); clear c0 c1 d0 d1; have HX4 := hide (box_to HX3.out hB4); have HY4 := hide (box_to HY3.out hB4); have c0 := cellOf HX4.out 0; have c1 := cellOf HX4.out 1; have d0 := cellOf HY4.out 0; have d1 := cellOf HY4.out 1; clear hB4)
    go_upto_region 8 with (go_at_call 43; refine (Implies_any m f g _ _ _ _ _ HS.out hfl hgl (H.out.up HB4.out) (HIF.out.up HB4.out) (HIG.out.up HB4.out) HN.out).mono ?_; rw [HY1e.out, HY2e.out, HY3e.out]; rintro e w5 ⟨v5, rfl, hv5, hB5⟩; have HB5 : Hid (Below w.heap.size w w5) := Below.to HB4.out hB5 (Nat.le_refl _); clear c0 c1 d0 d1; have HX5 := hide (box_to HX4.out hB5); have HY5 := hide (box_to HY4.out hB5); have c0 := cellOf HX5.out 0; have c1 := cellOf HX5.out 1; have d0 := cellOf HY5.out 0; have d1 := cellOf HY5.out 1; have HV5 := hide hv5; clear hv5; clear hB5)
    go_upto_region 9 with (go_at_call 44; refine (rImplies_any m f g _ _ _ _ _ HS.out hfl hgl (H.out.up HB5.out) (HIF.out.up HB5.out) (HIG.out.up HB5.out) HN.out).mono ?_; rw [HY1e.out, HY2e.out, HY3e.out]; rintro e w6 ⟨v6, rfl, hv6, hB6⟩; have HB6 : Hid (Below w.heap.size w w6) := Below.to HB5.out hB6 (Nat.le_refl _); have HV6 := hide hv6; have HV56 := hide (Sl.up HV5.out hB6); clear hv6; clear hB6)
    have hsv := SameVariant_any y y _ _ _ HV56.out HV6.out hyl (by unfold maxLen; omega)
    rw [show decide (y = y) = true from decide_eq_true rfl] at hsv
    have HSV2 := hide hsv
    clear hsv
    go_wp2_with (first | (go_at_call 23; refine HSV2.out.mono ?_; rintro e w7 ⟨rfl, hB7⟩; have HB7 : Hid (Below w.heap.size w w7) := Below.to HB6.out hB7 (Nat.le_refl _); clear hB7) | (go_at_call 20; refine (works_any _).mono ?_; rintro e w99 ⟨rfl, hB99⟩))
    go_ret
    exact ⟨rfl, Below.to HB7.out hB99 (Nat.le_refl _)⟩
theorem optionsMeets_walk (m : Mo) (l : List (List Int)) (f g : List Int) (ov rv lv fv gv : Value) (w : World) (hs : SizedM m) (hl : Sized l) (h : MoAt w w.heap.size ov rv m) (hf : Forms w w.heap.size lv l) (hif : Ints w w.heap.size fv f) (hfl : f.length ≤ maxLen) (hig : Ints w w.heap.size gv g) (hgl : g.length ≤ maxLen) :
    Calls Try.prog 10 #[.agg #[ov, rv], lv, .agg #[fv, gv]] w fun e w' => e = .returned (.bool true) ∧ Below w.heap.size w w' := by
  by_cases hfar : largeB m = true ∨ 30 < l.length ∧ l.length ≤ 200
  · exact optionsMeets_far m l f g ov rv lv fv gv w hs hl h hf hif hfl hig hgl hfar
  · exact optionsMeets_near m l f g ov rv lv fv gv w hs hl h hf hif hfl hig hgl (by cases hl : largeB m with | false => rfl | true => exact absurd (.inl hl) hfar) (by omega)

theorem own_OptionsMeets : ownKnob Try.prog.godebug = none := by kernel_rfl
theorem laid_OptionsMeets : laidOutB Try.prog = true := by kernel_rfl
theorem par_OptionsMeets : ∀ t ∈ Try.f10.params.toList, Try.prog.readableRec t = true ∧ t < Try.prog.types.size := by
  rw [Try.params10]
  intro t ht
  simp only [List.mem_cons, List.not_mem_nil, or_false] at ht
  rcases ht with rfl | rfl | rfl <;> exact ⟨by kernel_rfl, of_decide_eq_true (by kernel_rfl)⟩
set_option maxRecDepth 100000 in
theorem optionsMeets_lifted (os : Os) (started : os.Started) (H : Type) (enc : TypeId × Value → H) :
    ReturnsInHanded {} Try.checked os 10 .any (Rows.optionsMeetsSpec.pre6 enc Try.prog Try.f10 Rows.optionsMeetsRow.domain false) (Rows.optionsMeetsSpec.post enc Try.prog Try.f10 false true false false) := by
  refine returnsInHanded_of_change (C := Try.checked) own_OptionsMeets started (by kernel_rfl) Try.func10
    (ChangeSpec.witness6 (enc := enc) (C := Try.checked) false ⟨#[], #[.agg #[.slice none 0 0, .slice none 0 0], .slice none 0 0, .agg #[.slice none 0 0, .slice none 0 0]], []⟩ 8 (by kernel_rfl) (by kernel_rfl) (by kernel_rfl) (by kernel_rfl)) ?_
  intro W base args ds gs before hval0 hW hcnd _
  have hval : ∀ (j : Nat) t v, Try.f10.params[j]? = some t → args[j]? = some v → Value.okWide Try.prog W .any base t v := hval0
  have hW' := hW
  obtain ⟨p, q, hA0, hV, rfl, hfz, hnd⟩ := hW
  have hA : DataW.TrodAll enc Try.prog W 0 (fun _ => true) true Try.f10.params.toList args.toList ds p := hA0
  have hAll := hA
  have hltp : ∀ x ∈ p, x.block < W.heap.size := fun x hx => hW'.lt x (List.mem_append_left _ hx)
  rw [Try.params10] at hA hval
  obtain ⟨v0, v1, v2, d0, d1, d2, p0, p1, p2, rfl, rfl, rfl, h0, h1, h2⟩ := trodAll_three hA
  obtain ⟨rfl, rfl⟩ := trodVars_none hV
  obtain ⟨ov, rv, m, rfl, hmo, hsz⟩ := open_model (hval 0 25 v0 rfl rfl) h0
  obtain ⟨l, hl, hll⟩ := open_forms Try.underlying23 (hval 1 23 v1 rfl rfl) h1
  obtain ⟨fv, gv, f, g, rfl, hif, hfl, hig, hgl⟩ := open_two (hval 2 59 v2 rfl rfl) h2
  refine (optionsMeets_walk m l f g ov rv v1 fv gv W hsz hll hmo hl hif hfl hig hgl).mono fun e W2 ⟨he, hb⟩ => ?_
  subst he
  exact ⟨_, rfl, post_of_below (pv := []) hW' (fun _ _ _ => trodAll_mk1 (shut_bool Try.underlying4 _)) (fun sp hsp => trodAll_stays laid_OptionsMeets hb sp _ _ _ _ par_OptionsMeets hAll hltp (fun x hx => hsp x (List.mem_append_left _ hx))) (fun _ _ => rfl) rfl hb
    (ok_one (by kernel_rfl) rfl (okWide_bool_mk Try.underlying4 _))⟩
theorem optionsMeets_holds : Rows.OptionsMeetsSaid :=
  OpenClaim.holds_of_wide 10 Try.f10 rfl rfl rfl rfl rfl rfl rfl ⟨rfl, rfl, rfl, rfl, rfl⟩ rfl rfl rfl rfl rfl (by kernel_rfl) Try.func10 (by kernel_rfl)
    (of_decide_eq_true (by kernel_rfl)) (by unfold Func.isWrapper; first | (rw [if_pos (by decide +kernel)]; kernel_rfl) | (rw [if_neg (by decide +kernel)]; exact ⟨rfl, rfl⟩))
    (fun os started H enc _ => optionsMeets_lifted os started H enc)
#print axioms optionsMeets_holds

end Go.Proofs.Ytohofcmikfkilaa

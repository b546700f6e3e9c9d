/- Core answers as the elder program does: for every model and formula; no condition. -/
import Derived.Test.YtohofcmikfkilaaRows
import Derived.Test.YtohofcmikfkilaaGF
import Derived.Test.YtohofcmikfkilaaGG
import Derived.Test.YtohofcmikfkilaaGK
import Derived.Deep.RegionHeld3
import Derived.Deep.DrawnRows
namespace Go.Proofs.Ytohofcmikfkilaa
open Go.Joins Go.ChangeShapes Go.WideShapes Go.ChangeAt Go.RowKit Go.Deep
set_option maxRecDepth 100000
set_option linter.unusedVariables false
set_option linter.unusedSimpArgs false
theorem corL_le {m : Mo} {f : List Int} (h : corE m f = 0 → m.rules.length ≤ 12) : (corL m f).length ≤ 12 := by
  by_cases he : corE m f = 0
  · obtain ⟨_, _, h3⟩ := cor_inv he
    have := kept_len m f m.rules.length
    have := h he
    rw [h3]
    omega
  · unfold corL
    rw [if_neg he]
    simp
set_option maxRecDepth 100000 in
set_option maxHeartbeats 8000000 in
theorem optionsCores_walk (m : Mo) (f : List Int) (ov rv fv : Value) (w : World) (hs : SizedM m) (hl : f.length ≤ maxLen) (h : MoAt w w.heap.size ov rv m) (hf : Ints w w.heap.size fv f) :
    Calls Try.prog 5 #[.agg #[ov, rv], fv] w fun e w' => e = .returned (.bool true) ∧ Below w.heap.size w w' := by
  obtain ⟨A, cap, hov⟩ := Sl.form h.o
  obtain ⟨Ar, capr, hrv⟩ := h.r.form
  obtain ⟨Al, capl, hlv⟩ := Sl.form hf
  have H := hide h
  have HF := hide hf
  have HS := hide hs
  subst hov hrv hlv
  cases hlg : largeB m with
  | true =>
    have HLG := hide hlg
    clear h hf hs hlg
    go_enter Try.func5, Try.ntmps5
    go_upto_region 1 with (fail)
    generalize hw0 : World.alloc _ _ = w0
    obtain ⟨hb0, hB0, hs0⟩ := alloc1 hw0
    clear hw0
    have HX := hide hb0
    have HB0 := hide hB0
    have c0 := cellOf hb0 0
    have c1 := cellOf hb0 1
    clear hb0 hB0 hs0
    go_wp2_with (first | (go_at_call 19; refine (Large_any m _ _ _ (H.out.up HB0.out)).mono ?_; rw [HLG.out]; rintro e w1 ⟨rfl, hB1⟩; have HB1 : Hid (Below w.heap.size w w1) := Below.to HB0.out hB1 (Nat.le_refl _); clear c0 c1; have HX1 := hide (box_to HX.out hB1); have c0 := cellOf HX1.out 0; have c1 := cellOf HX1.out 1; clear hB1) | (go_at_call 20; refine (works_any _).mono ?_; rintro e w99 ⟨rfl, hB99⟩))
    go_ret
    exact ⟨rfl, Below.to HB1.out hB99 (Nat.le_refl _)⟩
  | false =>
    have HLG := hide hlg
    have hN : m.err = 0 → m.opts.length ≤ 12 ∧ m.rules.length ≤ 12 := fun he => by have := large_small hlg he; omega
    have hll := corL_le (m := m) (f := f) (fun he => (hN (Mo.okF (cor_inv he).1).1).2)
    obtain ⟨K, hc1⟩ : ∃ z, corL m f = z := ⟨_, rfl⟩
    obtain ⟨z, hc2⟩ : ∃ y, corE m f = y := ⟨_, rfl⟩
    rw [hc1] at hll
    have HC1 := hide hc1
    have HC2 := hide hc2
    have HN := hide hN
    have n1 : (z == z) = true := by simp
    clear h hf hs hlg hN hc1 hc2
    go_enter Try.func5, Try.ntmps5
    go_upto_region 1 with (fail)
    generalize hw0 : World.alloc _ _ = w0
    obtain ⟨hb0, hB0, hs0⟩ := alloc1 hw0
    clear hw0
    have HX := hide hb0
    have HB0 := hide hB0
    have c0 := cellOf hb0 0
    have c1 := cellOf hb0 1
    clear hb0 hB0 hs0
    go_upto_region 3 with (go_at_call 19; refine (Large_any m _ _ _ (H.out.up HB0.out)).mono ?_; rw [HLG.out]; rintro e w1 ⟨rfl, hB1⟩; have HB1 : Hid (Below w.heap.size w w1) := Below.to HB0.out hB1 (Nat.le_refl _); clear c0 c1; have HX1 := hide (box_to HX.out hB1); have c0 := cellOf HX1.out 0; have c1 := cellOf HX1.out 1; clear hB1)
    go_upto_region 4 with (go_at_call 28; refine (Core_any m f _ _ _ _ HS.out hl (H.out.up HB1.out) (HF.out.up HB1.out) HN.out).mono ?_; rw [HC1.out, HC2.out]; rintro e w2 ⟨v2, rfl, hv2, hB2⟩; have HB2 : Hid (Below w.heap.size w w2) := Below.to HB1.out hB2 (Nat.le_refl _); clear c0 c1; have HX2 := hide (box_to HX1.out hB2); have c0 := cellOf HX2.out 0; have c1 := cellOf HX2.out 1; obtain ⟨A2, cap2, hA2⟩ := Sl.form hv2; subst hA2; have HV2 := hide hv2; clear hv2; clear hB2)
    go_upto_region 5 with (go_at_call 29; refine (rCore_any m f _ _ _ _ HS.out hl (H.out.up HB2.out) (HF.out.up HB2.out) HN.out).mono ?_; rw [HC1.out, HC2.out]; rintro e w3 ⟨v3, rfl, hv3, hB3⟩; have HB3 : Hid (Below w.heap.size w w3) := Below.to HB2.out hB3 (Nat.le_refl _); have HV3 := hide hv3; have HV23 := hide (Nods.up HV2.out hB3); clear hv3; clear hB3)
    have hsv := sameInts_any (K.map fun (n : Nat) => (n : Int)) (K.map fun (n : Nat) => (n : Int)) _ _ _ HV23.out.ints HV3.out.ints (by simp; omega) (by unfold maxLen; simp; omega)
    rw [show decide ((K.map fun (n : Nat) => (n : Int)) = (K.map fun (n : Nat) => (n : Int))) = true from decide_eq_true rfl] at hsv
    have HSV := hide hsv
    clear hsv
    go_wp2_with (first | (go_at_call 30; refine HSV.out.mono ?_; rintro e w6 ⟨rfl, hB6⟩; have HB6 : Hid (Below w.heap.size w w6) := Below.to HB3.out hB6 (Nat.le_refl _); clear hB6) | (go_at_call 20; refine (works_any _).mono ?_; rintro e w99 ⟨rfl, hB99⟩))
    go_ret
    exact ⟨rfl, Below.to HB6.out hB99 (Nat.le_refl _)⟩

theorem own_OptionsCores : ownKnob Try.prog.godebug = none := by kernel_rfl
theorem laid_OptionsCores : laidOutB Try.prog = true := by kernel_rfl
theorem par_OptionsCores : ∀ t ∈ Try.f5.params.toList, Try.prog.readableRec t = true ∧ t < Try.prog.types.size := by
  rw [Try.params5]
  intro t ht
  simp only [List.mem_cons, List.not_mem_nil, or_false] at ht
  rcases ht with rfl | rfl <;> exact ⟨by kernel_rfl, of_decide_eq_true (by kernel_rfl)⟩
set_option maxRecDepth 100000 in
theorem optionsCores_lifted (os : Os) (started : os.Started) (H : Type) (enc : TypeId × Value → H) :
    ReturnsInHanded {} Try.checked os 5 .any (Rows.optionsCoresSpec.pre6 enc Try.prog Try.f5 Rows.optionsCoresRow.domain false) (Rows.optionsCoresSpec.post enc Try.prog Try.f5 false true false false) := by
  refine returnsInHanded_of_change (C := Try.checked) own_OptionsCores started (by kernel_rfl) Try.func5
    (ChangeSpec.witness6 (enc := enc) (C := Try.checked) false ⟨#[], #[.agg #[.slice none 0 0, .slice none 0 0], .slice none 0 0], []⟩ 8 (by kernel_rfl) (by kernel_rfl) (by kernel_rfl) (by kernel_rfl)) ?_
  intro W base args ds gs before hval0 hW hcnd _
  have hval : ∀ (j : Nat) t v, Try.f5.params[j]? = some t → args[j]? = some v → Value.okWide Try.prog W .any base t v := hval0
  have hW' := hW
  obtain ⟨p, q, hA0, hV, rfl, hfz, hnd⟩ := hW
  have hA : DataW.TrodAll enc Try.prog W 0 (fun _ => true) true Try.f5.params.toList args.toList ds p := hA0
  have hAll := hA
  have hltp : ∀ x ∈ p, x.block < W.heap.size := fun x hx => hW'.lt x (List.mem_append_left _ hx)
  rw [Try.params5] at hA hval
  obtain ⟨v0, v1, d0, d1, p0, p1, rfl, rfl, rfl, h0, h1⟩ := trodAll_two hA
  obtain ⟨rfl, rfl⟩ := trodVars_none hV
  obtain ⟨ov, rv, m, rfl, hmo, hsz⟩ := open_model (hval 0 25 v0 rfl rfl) h0
  obtain ⟨f, hf, hfl, _⟩ := open_formula Try.underlying35 (hval 1 35 v1 rfl rfl) h1
  refine (optionsCores_walk m f ov rv v1 W hsz hfl hmo hf).mono fun e W2 ⟨he, hb⟩ => ?_
  subst he
  exact ⟨_, rfl, post_of_below (pv := []) hW' (fun _ _ _ => trodAll_mk1 (shut_bool Try.underlying4 _)) (fun sp hsp => trodAll_stays laid_OptionsCores hb sp _ _ _ _ par_OptionsCores hAll hltp (fun x hx => hsp x (List.mem_append_left _ hx))) (fun _ _ => rfl) rfl hb
    (ok_one (by kernel_rfl) rfl (okWide_bool_mk Try.underlying4 _))⟩
theorem optionsCores_holds : Rows.OptionsCoresSaid :=
  OpenClaim.holds_of_wide 5 Try.f5 rfl rfl rfl rfl rfl rfl rfl ⟨rfl, rfl, rfl, rfl, rfl⟩ rfl rfl rfl rfl rfl (by kernel_rfl) Try.func5 (by kernel_rfl)
    (of_decide_eq_true (by kernel_rfl)) (by unfold Func.isWrapper; first | (rw [if_pos (by decide +kernel)]; kernel_rfl) | (rw [if_neg (by decide +kernel)]; exact ⟨rfl, rfl⟩))
    (fun os started H enc _ => optionsCores_lifted os started H enc)
#print axioms optionsCores_holds

end Go.Proofs.Ytohofcmikfkilaa

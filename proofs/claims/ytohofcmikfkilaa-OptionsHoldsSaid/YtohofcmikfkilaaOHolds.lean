/- Holds and Buildable answer as the elder program does: for every model, formula and variant; no condition. -/
import Derived.Test.YtohofcmikfkilaaRows
import Derived.Test.YtohofcmikfkilaaF20
import Derived.Test.YtohofcmikfkilaaF37
import Derived.Deep.RegionHeld3
import Derived.Deep.DrawnRows
namespace Go.Proofs.Ytohofcmikfkilaa
open Go.Joins Go.ChangeShapes Go.WideShapes Go.ChangeAt Go.RowKit Go.Deep
set_option linter.unusedVariables false
set_option linter.unusedSimpArgs false
set_option maxRecDepth 100000 in
set_option maxHeartbeats 4000000 in
theorem optionsHolds_walk (m : Mo) (f : List Int) (vs : List Bool) (ov rv fv vv : Value) (w : World) (hs : SizedM m) (hl : f.length ≤ maxLen) (h : MoAt w w.heap.size ov rv m) (hf : Ints w w.heap.size fv f) (hv : Bols w w.heap.size vv vs) :
    Calls Try.prog 11 #[.agg #[ov, rv], fv, vv] w fun e w' => e = .returned (.bool true) ∧ Below w.heap.size w w' := by
  obtain ⟨A, cap, hov⟩ := Sl.form h.o
  obtain ⟨Ar, capr, hrv⟩ := h.r.form
  obtain ⟨Al, capl, hlv⟩ := Sl.form hf
  obtain ⟨Av, capv, hvv⟩ := Sl.form hv
  have H := hide h
  have HF := hide hf
  have HV := hide hv
  have HS := hide hs
  subst hov hrv hlv hvv
  obtain ⟨z, hz⟩ : ∃ z, holE m f vs = z := ⟨_, rfl⟩
  obtain ⟨y, hy⟩ : ∃ y, holB m f vs = y := ⟨_, rfl⟩
  obtain ⟨a, ha⟩ : ∃ z, buiE m vs = z := ⟨_, rfl⟩
  obtain ⟨b, hb⟩ : ∃ y, buiB m vs = y := ⟨_, rfl⟩
  obtain ⟨c, hc⟩ : ∃ y, buiR m vs = y := ⟨_, rfl⟩
  have HZ := hide hz
  have HY := hide hy
  have HA := hide ha
  have HB := hide hb
  have HC := hide hc
  clear h hf hv hs hz hy ha hb hc
  have n1 : (!(y == y)) = false := by simp
  have n2 : (z != z) = false := by simp
  go_enter Try.func11, Try.ntmps11
  go_upto_region 1 with (fail)
  generalize hw0 : World.alloc _ _ = w0
  obtain ⟨hb0, hB0, hs0⟩ := alloc1 hw0
  clear hw0
  have HX := hide hb0
  have HB0 := hide hB0
  have c0 := cellOf hb0 0
  have c1 := cellOf hb0 1
  have hlt := box_lt hb0
  clear hb0 hB0 hs0
  go_upto_region 2 with (go_at_call 45; refine (Holds_any m f vs _ _ _ _ _ HS.out hl (H.out.up HB0.out) (HF.out.up HB0.out) (Sl.up HV.out HB0.out)).mono ?_; rw [HZ.out, HY.out]; rintro e w1 ⟨rfl, hB1⟩; have HB1 : Hid (Below w.heap.size w w1) := Below.to HB0.out hB1 (Nat.le_refl _); have HX1 := hide (box_to HX.out hB1); have x0 := cellOf HX1.out 0; have x1 := cellOf HX1.out 1; clear hB1 c0 c1)
  go_upto_region 3 with (go_at_call 46; refine (rHolds_any m f vs _ _ _ _ _ HS.out hl (H.out.up HB1.out) (HF.out.up HB1.out) (Sl.up HV.out HB1.out)).mono ?_; rw [HZ.out, HY.out]; rintro e w2 ⟨rfl, hB2⟩; have HB2 : Hid (Below w.heap.size w w2) := Below.to HB1.out hB2 (Nat.le_refl _); have HX2 := hide (box_to HX1.out hB2); have y0 := cellOf HX2.out 0; have y1 := cellOf HX2.out 1; clear hB2 x0 x1)
  go_upto_region 6 with (go_at_call 47; refine (Buildable_any m vs _ _ _ _ HS.out (H.out.up HB2.out) (Sl.up HV.out HB2.out)).mono ?_; rw [HA.out, HB.out, HC.out]; rintro e w3 ⟨rfl, hB3⟩; have HB3 : Hid (Below w.heap.size w w3) := Below.to HB2.out hB3 (Nat.le_refl _); have HX3 := hide (box_to HX2.out hB3); have z0 := cellOf HX3.out 0; have z1 := cellOf HX3.out 1; clear hB3 y0 y1)
  go_upto_region 7 with (go_at_call 48; refine (rBuildable_any m vs _ _ _ _ HS.out (H.out.up HB3.out) (Sl.up HV.out HB3.out)).mono ?_; rw [HA.out, HB.out, HC.out]; rintro e w4 ⟨rfl, hB4⟩; have HB4 : Hid (Below w.heap.size w w4) := Below.to HB3.out hB4 (Nat.le_refl _); clear hB4 z0 z1)
  go_wp2_with (go_at_call 20; refine (works_any _).mono ?_; rintro e w5 ⟨rfl, hB5⟩)
  go_ret
  exact ⟨rfl, Below.to HB4.out hB5 (Nat.le_refl _)⟩

theorem own_OptionsHolds : ownKnob Try.prog.godebug = none := by kernel_rfl
theorem laid_OptionsHolds : laidOutB Try.prog = true := by kernel_rfl
theorem par_OptionsHolds : ∀ t ∈ Try.f11.params.toList, Try.prog.readableRec t = true ∧ t < Try.prog.types.size := by
  rw [Try.params11]
  intro t ht
  simp only [List.mem_cons, List.not_mem_nil, or_false] at ht
  rcases ht with rfl | rfl | rfl <;> exact ⟨by kernel_rfl, of_decide_eq_true (by kernel_rfl)⟩
set_option maxRecDepth 100000 in
theorem optionsHolds_lifted (os : Os) (started : os.Started) (H : Type) (enc : TypeId × Value → H) :
    ReturnsInHanded {} Try.checked os 11 .any (Rows.optionsHoldsSpec.pre6 enc Try.prog Try.f11 Rows.optionsHoldsRow.domain false) (Rows.optionsHoldsSpec.post enc Try.prog Try.f11 false true false false) := by
  refine returnsInHanded_of_change (C := Try.checked) own_OptionsHolds started (by kernel_rfl) Try.func11
    (ChangeSpec.witness6 (enc := enc) (C := Try.checked) false ⟨#[], #[.agg #[.slice none 0 0, .slice none 0 0], .slice none 0 0, .slice none 0 0], []⟩ 8 (by kernel_rfl) (by kernel_rfl) (by kernel_rfl) (by kernel_rfl)) ?_
  intro W base args ds gs before hval0 hW hcnd _
  have hval : ∀ (j : Nat) t v, Try.f11.params[j]? = some t → args[j]? = some v → Value.okWide Try.prog W .any base t v := hval0
  have hW' := hW
  obtain ⟨p, q, hA0, hV, rfl, hfz, hnd⟩ := hW
  have hA : DataW.TrodAll enc Try.prog W 0 (fun _ => true) true Try.f11.params.toList args.toList ds p := hA0
  have hAll := hA
  have hltp : ∀ x ∈ p, x.block < W.heap.size := fun x hx => hW'.lt x (List.mem_append_left _ hx)
  rw [Try.params11] at hA hval
  obtain ⟨v0, v1, v2, d0, d1, d2, p0, p1, p2, rfl, rfl, rfl, h0, h1, h2⟩ := trodAll_three hA
  obtain ⟨rfl, rfl⟩ := trodVars_none hV
  obtain ⟨ov, rv, m, rfl, hmo, hsz⟩ := open_model (hval 0 25 v0 rfl rfl) h0
  obtain ⟨f, hf, hfl, _⟩ := open_formula Try.underlying35 (hval 1 35 v1 rfl rfl) h1
  obtain ⟨vs, hvs, hvl⟩ := open_bools (hval 2 29 v2 rfl rfl) h2
  refine (optionsHolds_walk m f vs ov rv v1 v2 W hsz hfl hmo hf hvs).mono fun e W2 ⟨he, hb⟩ => ?_
  subst he
  exact ⟨_, rfl, post_of_below (pv := []) hW' (fun _ _ _ => trodAll_mk1 (shut_bool Try.underlying4 _)) (fun sp hsp => trodAll_stays laid_OptionsHolds hb sp _ _ _ _ par_OptionsHolds hAll hltp (fun x hx => hsp x (List.mem_append_left _ hx))) (fun _ _ => rfl) rfl hb
    (ok_one (by kernel_rfl) rfl (okWide_bool_mk Try.underlying4 _))⟩
theorem optionsHolds_holds : Rows.OptionsHoldsSaid :=
  OpenClaim.holds_of_wide 11 Try.f11 rfl rfl rfl rfl rfl rfl rfl ⟨rfl, rfl, rfl, rfl, rfl⟩ rfl rfl rfl rfl rfl (by kernel_rfl) Try.func11 (by kernel_rfl)
    (of_decide_eq_true (by kernel_rfl)) (by unfold Func.isWrapper; first | (rw [if_pos (by decide +kernel)]; kernel_rfl) | (rw [if_neg (by decide +kernel)]; exact ⟨rfl, rfl⟩))
    (fun os started H enc _ => optionsHolds_lifted os started H enc)
#print axioms optionsHolds_holds

end Go.Proofs.Ytohofcmikfkilaa

/- Diagram answers as the elder program does: for every model and formula; no condition. -/
import Derived.Test.YtohofcmikfkilaaRows
import Derived.Test.YtohofcmikfkilaaGF
import Derived.Test.YtohofcmikfkilaaGL
import Derived.Deep.RegionHeld3
import Derived.Deep.DrawnRows
namespace Go.Proofs.Ytohofcmikfkilaa
open Go.Joins Go.ChangeShapes Go.WideShapes Go.ChangeAt Go.RowKit Go.Deep
set_option linter.unusedVariables false
set_option linter.unusedSimpArgs false
set_option maxRecDepth 100000 in
set_option maxHeartbeats 4000000 in
theorem optionsDiagrams_walk (m : Mo) (f : List Int) (ov rv fv : Value) (w : World) (hs : SizedM m) (hl : f.length ≤ maxLen) (h : MoAt w w.heap.size ov rv m) (hf : Ints w w.heap.size fv f) :
    Calls Try.prog 8 #[.agg #[ov, rv], fv] w fun e w' => e = .returned (.bool true) ∧ Below w.heap.size w w' := by
  obtain ⟨A, cap, hov⟩ := Sl.form h.o
  obtain ⟨Ar, capr, hrv⟩ := h.r.form
  obtain ⟨Al, capl, hlv⟩ := Sl.form hf
  have H := hide h
  have HF := hide hf
  have HS := hide hs
  subst hov hrv hlv
  cases hlg : largeB m with
  | true =>
    have HLG := hide hlg
    clear h hf hs hlg
    go_enter Try.func8, Try.ntmps8
    go_upto_region 1 with (fail)
    generalize hw0 : World.alloc _ _ = w0
    obtain ⟨hb0, hB0, hs0⟩ := alloc1 hw0
    clear hw0
    have HB0 := hide hB0
    have c0 := cellOf hb0 0
    have c1 := cellOf hb0 1
    clear hb0 hB0 hs0
    go_wp2_with (first | (go_at_call 19; refine (Large_any m _ _ _ (H.out.up HB0.out)).mono ?_; rw [HLG.out]; rintro e w1 ⟨rfl, hB1⟩; have HB1 : Hid (Below w.heap.size w w1) := Below.to HB0.out hB1 (Nat.le_refl _); clear hB1 c0 c1) | (go_at_call 20; refine (works_any _).mono ?_; rintro e w5 ⟨rfl, hB5⟩))
    go_ret
    exact ⟨rfl, Below.to HB1.out hB5 (Nat.le_refl _)⟩
  | false =>
    have HLG := hide hlg
    have hN : m.err = 0 → m.opts.length ≤ 12 := fun he => by have := (large_small hlg he).1; omega
    have hll : (digK m f).length ≤ 1000000 := by
      unfold digK
      split
      · rename_i h0
        by_cases he : m.errF [f] = 0
        · by_cases h2 : 2000 < (bldM m f).1.length
          · rw [dig_many he h2] at h0; omega
          · omega
        · rw [dig_err he] at h0; exact absurd h0 he
      · simp
    obtain ⟨z, hz⟩ : ∃ z, digE m f = z := ⟨_, rfl⟩
    obtain ⟨r, hr⟩ : ∃ y, digR m f = y := ⟨_, rfl⟩
    obtain ⟨b, hb⟩ : ∃ y, digK m f = y := ⟨_, rfl⟩
    rw [hb] at hll
    have HZ := hide hz
    have HR := hide hr
    have HB := hide hb
    have HN := hide hN
    have HLL := hide hll
    clear h hf hs hz hr hb hlg hN hll
    have n1 : (r == r) = true := by simp
    have n3 : (z == z) = true := by simp
    go_enter Try.func8, Try.ntmps8
    go_upto_region 1 with (fail)
    generalize hw0 : World.alloc _ _ = w0
    obtain ⟨hb0, hB0, hs0⟩ := alloc1 hw0
    clear hw0
    have HX := hide hb0
    have HB0 := hide hB0
    have c0 := cellOf hb0 0
    have c1 := cellOf hb0 1
    clear hb0 hB0 hs0
    go_upto_region 3 with (go_at_call 19; refine (Large_any m _ _ _ (H.out.up HB0.out)).mono ?_; rw [HLG.out]; rintro e w1 ⟨rfl, hB1⟩; have HB1 : Hid (Below w.heap.size w w1) := Below.to HB0.out hB1 (Nat.le_refl _); have HX1 := hide (box_to HX.out hB1); have x0 := cellOf HX1.out 0; have x1 := cellOf HX1.out 1; clear hB1 c0 c1)
    go_upto_region 4 with (go_at_call 34; refine (Diagram_any m f _ _ _ _ HS.out hl (H.out.up HB1.out) (HF.out.up HB1.out) HN.out).mono ?_; unfold DigP; rw [HZ.out, HR.out, HB.out]; rintro e w4 ⟨lv, rfl, hL4, hB4⟩; have HB4 : Hid (Below w.heap.size w w4) := Below.to HB1.out hB4 (Nat.le_refl _); have HX4 := hide (box_to HX1.out hB4); have HL4 := hide hL4; have u0 := cellOf HX4.out 0; have u1 := cellOf HX4.out 1; clear hB4 hL4 x0 x1)
    go_upto_region 5 with (go_at_call 35; refine (rDiagram_any m f _ _ _ _ HS.out hl (H.out.up HB4.out) (HF.out.up HB4.out) HN.out).mono ?_; unfold DigP; rw [HZ.out, HR.out, HB.out]; rintro e w5 ⟨mv, rfl, hL5, hB5⟩; have HB5 : Hid (Below w.heap.size w w5) := Below.to HB4.out hB5 (Nat.le_refl _); have HL5 := hide hL5; have HL45 := hide (HL4.out.up hB5); clear hB5 hL5 u0 u1)
    have hsv := sameKnotsEq_any b _ _ _ HL45.out HL5.out HLL.out
    have HSV := hide hsv
    clear hsv
    go_wp2_with (first | (go_at_call 36; refine HSV.out.mono ?_; rintro e w6 ⟨rfl, hB6⟩) | (go_at_call 20; refine (works_any _).mono ?_; rintro e w7 ⟨rfl, hB7⟩))
    go_ret
    exact ⟨rfl, Below.to (Below.to HB5.out hB6 (Nat.le_refl _)) hB7 (Nat.le_refl _)⟩

theorem own_OptionsDiagrams : ownKnob Try.prog.godebug = none := by kernel_rfl
theorem laid_OptionsDiagrams : laidOutB Try.prog = true := by kernel_rfl
theorem par_OptionsDiagrams : ∀ t ∈ Try.f8.params.toList, Try.prog.readableRec t = true ∧ t < Try.prog.types.size := by
  rw [Try.params8]
  intro t ht
  simp only [List.mem_cons, List.not_mem_nil, or_false] at ht
  rcases ht with rfl | rfl <;> exact ⟨by kernel_rfl, of_decide_eq_true (by kernel_rfl)⟩
set_option maxRecDepth 100000 in
theorem optionsDiagrams_lifted (os : Os) (started : os.Started) (H : Type) (enc : TypeId × Value → H) :
    ReturnsInHanded {} Try.checked os 8 .any (Rows.optionsDiagramsSpec.pre6 enc Try.prog Try.f8 Rows.optionsDiagramsRow.domain false) (Rows.optionsDiagramsSpec.post enc Try.prog Try.f8 false true false false) := by
  refine returnsInHanded_of_change (C := Try.checked) own_OptionsDiagrams started (by kernel_rfl) Try.func8
    (ChangeSpec.witness6 (enc := enc) (C := Try.checked) false ⟨#[], #[.agg #[.slice none 0 0, .slice none 0 0], .slice none 0 0], []⟩ 8 (by kernel_rfl) (by kernel_rfl) (by kernel_rfl) (by kernel_rfl)) ?_
  intro W base args ds gs before hval0 hW hcnd _
  have hval : ∀ (j : Nat) t v, Try.f8.params[j]? = some t → args[j]? = some v → Value.okWide Try.prog W .any base t v := hval0
  have hW' := hW
  obtain ⟨p, q, hA0, hV, rfl, hfz, hnd⟩ := hW
  have hA : DataW.TrodAll enc Try.prog W 0 (fun _ => true) true Try.f8.params.toList args.toList ds p := hA0
  have hAll := hA
  have hltp : ∀ x ∈ p, x.block < W.heap.size := fun x hx => hW'.lt x (List.mem_append_left _ hx)
  rw [Try.params8] at hA hval
  obtain ⟨v0, v1, d0, d1, p0, p1, rfl, rfl, rfl, h0, h1⟩ := trodAll_two hA
  obtain ⟨rfl, rfl⟩ := trodVars_none hV
  obtain ⟨ov, rv, m, rfl, hmo, hsz⟩ := open_model (hval 0 25 v0 rfl rfl) h0
  obtain ⟨f, hf, hfl, _⟩ := open_formula Try.underlying35 (hval 1 35 v1 rfl rfl) h1
  refine (optionsDiagrams_walk m f ov rv v1 W hsz hfl hmo hf).mono fun e W2 ⟨he, hb⟩ => ?_
  subst he
  exact ⟨_, rfl, post_of_below (pv := []) hW' (fun _ _ _ => trodAll_mk1 (shut_bool Try.underlying4 _)) (fun sp hsp => trodAll_stays laid_OptionsDiagrams hb sp _ _ _ _ par_OptionsDiagrams hAll hltp (fun x hx => hsp x (List.mem_append_left _ hx))) (fun _ _ => rfl) rfl hb
    (ok_one (by kernel_rfl) rfl (okWide_bool_mk Try.underlying4 _))⟩
theorem optionsDiagrams_holds : Rows.OptionsDiagramsSaid :=
  OpenClaim.holds_of_wide 8 Try.f8 rfl rfl rfl rfl rfl rfl rfl ⟨rfl, rfl, rfl, rfl, rfl⟩ rfl rfl rfl rfl rfl (by kernel_rfl) Try.func8 (by kernel_rfl)
    (of_decide_eq_true (by kernel_rfl)) (by unfold Func.isWrapper; first | (rw [if_pos (by decide +kernel)]; kernel_rfl) | (rw [if_neg (by decide +kernel)]; exact ⟨rfl, rfl⟩))
    (fun os started H enc _ => optionsDiagrams_lifted os started H enc)
#print axioms optionsDiagrams_holds

end Go.Proofs.Ytohofcmikfkilaa

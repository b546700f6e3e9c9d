/- The variants of Cover are buildable, and have just the combinations that are not missing; Fixed says the same of single options: for every model; no condition. -/
import Derived.Test.YtohofcmikfkilaaRows
import Derived.Test.YtohofcmikfkilaaTCF
import Derived.Test.YtohofcmikfkilaaTCG
import Derived.Test.YtohofcmikfkilaaTCH
import Derived.Test.YtohofcmikfkilaaTCJ
import Derived.Test.YtohofcmikfkilaaTCR
import Derived.Test.YtohofcmikfkilaaTCT
import Derived.Test.YtohofcmikfkilaaTCS
import Derived.Test.YtohofcmikfkilaaTCU
import Derived.Deep.RegionHeld3
import Derived.Deep.DrawnRows
namespace Go.Proofs.Ytohofcmikfkilaa
open Go.Joins Go.ChangeShapes Go.WideShapes Go.ChangeAt Go.RowKit Go.Deep
set_option linter.unusedVariables false
set_option linter.unusedSimpArgs false
set_option maxRecDepth 100000 in
set_option maxHeartbeats 8000000 in
theorem optionsCovers_large (m : Mo) (ov rv : Value) (w : World) (hs : SizedM m) (h : MoAt w w.heap.size ov rv m) (hlg : largeB m = true) :
    Calls Try.prog 17 #[.agg #[ov, rv]] w fun e w' => e = .returned (.bool true) ∧ Below w.heap.size w w' := by
  obtain ⟨A, cap, hov⟩ := Sl.form h.o
  obtain ⟨Ar, capr, hrv⟩ := h.r.form
  have H := hide h
  have HS := hide hs
  have HLG := hide hlg
  subst hov hrv
  clear h hs hlg
  go_enter Try.func17, Try.ntmps17
  go_upto_region 1 with (fail)
  generalize hw0 : World.alloc _ _ = w0
  obtain ⟨hb0, hB0, hs0⟩ := alloc1 hw0
  clear hw0
  have HX0 := hide hb0
  have HB0 := hide hB0
  have c0 := cellOf hb0 0
  have c1 := cellOf hb0 1
  clear hb0 hB0 hs0
  go_wp2_with (first | (go_at_call 20; refine (works_any _).mono ?_; rintro e w99 ⟨rfl, hB99⟩) | (go_at_call 19; refine (Large_any m _ _ _ (H.out.up HB0.out)).mono ?_; rw [HLG.out]; rintro e w1 ⟨rfl, hB1⟩; have HB1 : Hid (Below w.heap.size w w1) := Below.to HB0.out hB1 (Nat.le_refl _); have HX1 := hide (box_to HX0.out hB1); (try clear c0 c1); have c0 := cellOf HX1.out 0; have c1 := cellOf HX1.out 1; clear hB1))
  go_ret
  exact ⟨rfl, Below.to HB1.out hB99 (Nat.le_refl _)⟩
set_option maxRecDepth 100000 in
set_option maxHeartbeats 8000000 in
theorem optionsCovers_err (m : Mo) (ov rv : Value) (w : World) (hs : SizedM m) (h : MoAt w w.heap.size ov rv m) (hlg : largeB m = false) (he : m.err ≠ 0) :
    Calls Try.prog 17 #[.agg #[ov, rv]] w fun e w' => e = .returned (.bool true) ∧ Below w.heap.size w w' := by
  obtain ⟨A, cap, hov⟩ := Sl.form h.o
  obtain ⟨Ar, capr, hrv⟩ := h.r.form
  have H := hide h
  have HS := hide hs
  have HLG := hide hlg
  subst hov hrv
  have hN : m.err = 0 → m.opts.length ≤ 12 := fun he => by have := (large_small hlg he).1; omega
  have hf2 := misL_len hN
  have hf3 := cov_len hN
  have hcm := fun y hy => cov_in (m := m) y hy
  obtain ⟨ml, hml⟩ : ∃ x, misL m = x := ⟨_, rfl⟩
  obtain ⟨cl, hcl⟩ : ∃ x, covL m = x := ⟨_, rfl⟩
  rw [hml] at hf2
  rw [hcl] at hf3 hcm
  have HN := hide hN
  have HF2 := hide hf2
  have HF3 := hide hf3
  have HCM := hide hcm
  obtain ⟨er, her⟩ : ∃ x, m.err = x := ⟨_, rfl⟩
  have HML := hide (And.intro hml her)
  have HCL := hide (And.intro hcl her)
  rw [her] at he
  have n1 : (er != 0) = true := by simpa using he
  clear h hs hlg hN hf2 hf3 hml hcl her he hcm
  go_enter Try.func17, Try.ntmps17
  go_upto_region 1 with (fail)
  generalize hw0 : World.alloc _ _ = w0
  obtain ⟨hb0, hB0, hs0⟩ := alloc1 hw0
  clear hw0
  have HX0 := hide hb0
  have HB0 := hide hB0
  have c0 := cellOf hb0 0
  have c1 := cellOf hb0 1
  clear hb0 hB0 hs0
  go_upto_region 3 with (go_at_call 19; refine (Large_any m _ _ _ (H.out.up HB0.out)).mono ?_; rw [HLG.out]; rintro e w1 ⟨rfl, hB1⟩; have HB1 : Hid (Below w.heap.size w w1) := Below.to HB0.out hB1 (Nat.le_refl _); have HX1 := hide (box_to HX0.out hB1); (try clear c0 c1); have c0 := cellOf HX1.out 0; have c1 := cellOf HX1.out 1; clear hB1)
  go_upto_region 4 with (go_at_call 55; refine (Cover_any m _ _ _ HS.out (H.out.up HB1.out) HN.out).mono ?_; unfold ListP; rw [HCL.out.1, HCL.out.2]; rintro e w2 ⟨v2, rfl, ⟨rvs, ⟨Ac, bc, offc, capc, rfl, hncc, hAc, hcc⟩, hrc⟩, hB2⟩; have HB2 : Hid (Below w.heap.size w w2) := Below.to HB1.out hB2 (Nat.le_refl _); have HX2 := hide (box_to HX1.out hB2); (try clear c0 c1); have c0 := cellOf HX2.out 0; have c1 := cellOf HX2.out 1; have HVC : Hid (Vars w2 w2.heap.size (.slice Ac cl.length capc) cl) := ⟨rvs, ⟨Ac, bc, offc, capc, rfl, hncc, hAc, hcc⟩, hrc⟩; have HAC := hide hAc; have HCC := hide hcc; have HRC := hide hrc; clear hB2 hncc hAc hcc hrc)
  go_upto_region 5 with (go_at_call 51; refine (Missing_any m _ _ _ HS.out (H.out.up HB2.out) HN.out).mono ?_; unfold MisP; rw [HML.out.1, HML.out.2]; rintro e w3 ⟨v3, rfl, hm3, hB3⟩; have HB3 : Hid (Below w.heap.size w w3) := Below.to HB2.out hB3 (Nat.le_refl _); have HX3 := hide (box_to HX2.out hB3); (try clear c0 c1); have c0 := cellOf HX3.out 0; have c1 := cellOf HX3.out 1; obtain ⟨Am, capm, hAm⟩ := Sl.form hm3; subst hAm; have HM3 := hide hm3; have HB23 : Hid (Below w2.heap.size w2 w3) := hB3; clear hB3 hm3)
  go_wp2_with (go_at_call 20; refine (works_any _).mono ?_; rintro e w99 ⟨rfl, hB99⟩)
  go_ret
  exact ⟨rfl, Below.to HB3.out hB99 (Nat.le_refl _)⟩
theorem optionsCovers_walk (m : Mo) (ov rv : Value) (w : World) (hs : SizedM m) (h : MoAt w w.heap.size ov rv m) :
    Calls Try.prog 17 #[.agg #[ov, rv]] w fun e w' => e = .returned (.bool true) ∧ Below w.heap.size w w' := by
  cases hlg : largeB m with
  | true => exact optionsCovers_large m ov rv w hs h hlg
  | false =>
    by_cases he : m.err = 0
    · exact optionsCovers_ok m ov rv w hs h hlg he
    · exact optionsCovers_err m ov rv w hs h hlg he

theorem own_OptionsCovers : ownKnob Try.prog.godebug = none := by kernel_rfl
theorem laid_OptionsCovers : laidOutB Try.prog = true := by kernel_rfl
theorem par_OptionsCovers : ∀ t ∈ Try.f17.params.toList, Try.prog.readableRec t = true ∧ t < Try.prog.types.size := by
  rw [Try.params17]
  intro t ht
  simp only [List.mem_cons, List.not_mem_nil, or_false] at ht
  rcases ht with rfl <;> exact ⟨by kernel_rfl, of_decide_eq_true (by kernel_rfl)⟩
set_option maxRecDepth 100000 in
theorem optionsCovers_lifted (os : Os) (started : os.Started) (H : Type) (enc : TypeId × Value → H) :
    ReturnsInHanded {} Try.checked os 17 .any (Rows.optionsCoversSpec.pre6 enc Try.prog Try.f17 Rows.optionsCoversRow.domain false) (Rows.optionsCoversSpec.post enc Try.prog Try.f17 false true false false) := by
  refine returnsInHanded_of_change (C := Try.checked) own_OptionsCovers started (by kernel_rfl) Try.func17
    (ChangeSpec.witness6 (enc := enc) (C := Try.checked) false ⟨#[], #[.agg #[.slice none 0 0, .slice none 0 0]], []⟩ 8 (by kernel_rfl) (by kernel_rfl) (by kernel_rfl) (by kernel_rfl)) ?_
  intro W base args ds gs before hval0 hW hcnd _
  have hval : ∀ (j : Nat) t v, Try.f17.params[j]? = some t → args[j]? = some v → Value.okWide Try.prog W .any base t v := hval0
  have hW' := hW
  obtain ⟨p, q, hA0, hV, rfl, hfz, hnd⟩ := hW
  have hA : DataW.TrodAll enc Try.prog W 0 (fun _ => true) true Try.f17.params.toList args.toList ds p := hA0
  have hAll := hA
  have hltp : ∀ x ∈ p, x.block < W.heap.size := fun x hx => hW'.lt x (List.mem_append_left _ hx)
  rw [Try.params17] at hA hval
  obtain ⟨v0, d0, rfl, rfl, h0⟩ := trodAll_one hA
  obtain ⟨rfl, rfl⟩ := trodVars_none hV
  obtain ⟨ov, rv, m, rfl, hmo, hsz⟩ := open_model (hval 0 25 v0 rfl rfl) h0
  refine (optionsCovers_walk m ov rv W hsz hmo).mono fun e W2 ⟨he, hb⟩ => ?_
  subst he
  exact ⟨_, rfl, post_of_below (pv := []) hW' (fun _ _ _ => trodAll_mk1 (shut_bool Try.underlying4 _)) (fun sp hsp => trodAll_stays laid_OptionsCovers hb sp _ _ _ _ par_OptionsCovers hAll hltp (fun x hx => hsp x (List.mem_append_left _ hx))) (fun _ _ => rfl) rfl hb
    (ok_one (by kernel_rfl) rfl (okWide_bool_mk Try.underlying4 _))⟩
theorem optionsCovers_holds : Rows.OptionsCoversSaid :=
  OpenClaim.holds_of_wide 17 Try.f17 rfl rfl rfl rfl rfl rfl rfl ⟨rfl, rfl, rfl, rfl, rfl⟩ rfl rfl rfl rfl rfl (by kernel_rfl) Try.func17 (by kernel_rfl)
    (of_decide_eq_true (by kernel_rfl)) (by unfold Func.isWrapper; first | (rw [if_pos (by decide +kernel)]; kernel_rfl) | (rw [if_neg (by decide +kernel)]; exact ⟨rfl, rfl⟩))
    (fun os started H enc _ => optionsCovers_lifted os started H enc)
#print axioms optionsCovers_holds

end Go.Proofs.Ytohofcmikfkilaa

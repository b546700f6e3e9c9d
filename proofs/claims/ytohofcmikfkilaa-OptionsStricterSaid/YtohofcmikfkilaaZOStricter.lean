/- With one more rule no Count becomes greater, what is missing stays missing, what was implied is implied still: for every model and two formulas; no condition. -/
import Derived.Test.YtohofcmikfkilaaRows
import Derived.Test.YtohofcmikfkilaaTCF
import Derived.Test.YtohofcmikfkilaaTCH
import Derived.Test.YtohofcmikfkilaaTCJ
import Derived.Test.YtohofcmikfkilaaTCK
import Derived.Test.YtohofcmikfkilaaTCM
import Derived.Test.YtohofcmikfkilaaTCQ
import Derived.Test.YtohofcmikfkilaaTCS
import Derived.Test.YtohofcmikfkilaaTCT
import Derived.Test.YtohofcmikfkilaaTCV
import Derived.Deep.RegionHeld3
import Derived.Deep.DrawnRows
namespace Go.Proofs.Ytohofcmikfkilaa
open Go.Joins Go.ChangeShapes Go.WideShapes Go.ChangeAt Go.RowKit Go.Deep
set_option linter.unusedVariables false
set_option linter.unusedSimpArgs false
set_option maxRecDepth 100000 in
set_option maxHeartbeats 8000000 in
theorem optionsStricter_large (m : Mo) (f r : List Int) (ov rv fv gv : Value) (w : World) (hs : SizedM m) (h : MoAt w w.heap.size ov rv m) (hif : Ints w w.heap.size fv f) (hfl : f.length ≤ maxLen) (hir : Ints w w.heap.size gv r) (hrl : r.length ≤ maxLen) (hlg : largeB m = true) :
    Calls Try.prog 13 #[.agg #[ov, rv], fv, gv] w fun e w' => e = .returned (.bool true) ∧ Below w.heap.size w w' := by
  obtain ⟨A, cap, hov⟩ := Sl.form h.o
  have H := hide h
  have HS := hide hs
  have HIF := hide hif
  have HIR := hide hir
  obtain ⟨fvs, ⟨Ar, bl, offl, capr, hrv, hncl, hAl, hcl⟩, hfi⟩ := h.r
  have hvr : Reads w w.heap.size 1 Ar m.rules.length (flat m.rules.length 1 (fun i _ => fvs i)) := Sl.reads ⟨Ar, bl, offl, capr, rfl, hncl, hAl, hcl⟩ (by omega)
  have hvo : ∀ u ∈ flat m.rules.length 1 (fun i _ => fvs i), u.oneCell' = true := fun u hu => by
    obtain ⟨k, hk, hku⟩ := List.getElem_of_mem hu
    obtain ⟨i, j, hi, _, _, hue⟩ := flat_inv (by omega) ((List.getElem?_eq_getElem hk).trans (congrArg some hku))
    obtain ⟨Ax, capx, hx⟩ := Sl.form (hfi i hi)
    rw [hue, hx]; rfl
  have HVR := hide hvr
  have HVO := hide hvo
  have HFI := hide hfi
  obtain ⟨Af, capf, hfv⟩ := Sl.form hif
  obtain ⟨Ag, capg, hgv⟩ := Sl.form hir
  subst hov hrv hfv hgv
  clear h hs hif hir hvr hvo hfi hncl hAl hcl
  have HLG := hide hlg
  clear hlg
  go_enter Try.func13, Try.ntmps13
  go_upto_region 1 with (fail)
  generalize hw0 : World.alloc _ _ = w0
  obtain ⟨hb0, hB0, hs0⟩ := alloc1 hw0
  clear hw0
  have HX0 := hide hb0
  have HB0 := hide hB0
  have c0 := cellOf hb0 0
  have c1 := cellOf hb0 1
  clear hb0 hB0 hs0
  go_wp2_with (first | (go_at_call 20; refine (works_any _).mono ?_; rintro e w99 ⟨rfl, hB99⟩) | (go_at_call 19; refine (Large_any m _ _ _ (H.out.up HB0.out)).mono ?_; rw [HLG.out]; rintro e w1 ⟨rfl, hB1⟩; have HB1 : Hid (Below w.heap.size w w1) := Below.to HB0.out hB1 (Nat.le_refl _); have HX1 := hide (box_to HX0.out hB1); (try clear c0 c1); have c0 := cellOf HX1.out 0; have c1 := cellOf HX1.out 1; clear hB1))
  go_ret
  exact ⟨rfl, Below.to HB1.out hB99 (Nat.le_refl _)⟩
set_option maxRecDepth 100000 in
set_option maxHeartbeats 8000000 in
theorem optionsStricter_rules (m : Mo) (f r : List Int) (ov rv fv gv : Value) (w : World) (hs : SizedM m) (h : MoAt w w.heap.size ov rv m) (hif : Ints w w.heap.size fv f) (hfl : f.length ≤ maxLen) (hir : Ints w w.heap.size gv r) (hrl : r.length ≤ maxLen) (hlg : largeB m = false) (h11 : 11 < m.rules.length) :
    Calls Try.prog 13 #[.agg #[ov, rv], fv, gv] w fun e w' => e = .returned (.bool true) ∧ Below w.heap.size w w' := by
  obtain ⟨A, cap, hov⟩ := Sl.form h.o
  have H := hide h
  have HS := hide hs
  have HIF := hide hif
  have HIR := hide hir
  obtain ⟨fvs, ⟨Ar, bl, offl, capr, hrv, hncl, hAl, hcl⟩, hfi⟩ := h.r
  have hvr : Reads w w.heap.size 1 Ar m.rules.length (flat m.rules.length 1 (fun i _ => fvs i)) := Sl.reads ⟨Ar, bl, offl, capr, rfl, hncl, hAl, hcl⟩ (by omega)
  have hvo : ∀ u ∈ flat m.rules.length 1 (fun i _ => fvs i), u.oneCell' = true := fun u hu => by
    obtain ⟨k, hk, hku⟩ := List.getElem_of_mem hu
    obtain ⟨i, j, hi, _, _, hue⟩ := flat_inv (by omega) ((List.getElem?_eq_getElem hk).trans (congrArg some hku))
    obtain ⟨Ax, capx, hx⟩ := Sl.form (hfi i hi)
    rw [hue, hx]; rfl
  have HVR := hide hvr
  have HVO := hide hvo
  have HFI := hide hfi
  obtain ⟨Af, capf, hfv⟩ := Sl.form hif
  obtain ⟨Ag, capg, hgv⟩ := Sl.form hir
  subst hov hrv hfv hgv
  clear h hs hif hir hvr hvo hfi hncl hAl hcl
  have HLG := hide hlg
  have q0 : decide ((11 : Int) < (m.rules.length : Int)) = true := by simp; omega
  clear hlg h11
  go_enter Try.func13, Try.ntmps13
  go_upto_region 1 with (fail)
  generalize hw0 : World.alloc _ _ = w0
  obtain ⟨hb0, hB0, hs0⟩ := alloc1 hw0
  clear hw0
  have HX0 := hide hb0
  have HB0 := hide hB0
  have c0 := cellOf hb0 0
  have c1 := cellOf hb0 1
  clear hb0 hB0 hs0
  go_wp2_with (first | (go_at_call 20; refine (works_any _).mono ?_; rintro e w99 ⟨rfl, hB99⟩) | (go_at_call 19; refine (Large_any m _ _ _ (H.out.up HB0.out)).mono ?_; rw [HLG.out]; rintro e w1 ⟨rfl, hB1⟩; have HB1 : Hid (Below w.heap.size w w1) := Below.to HB0.out hB1 (Nat.le_refl _); have HX1 := hide (box_to HX0.out hB1); (try clear c0 c1); have c0 := cellOf HX1.out 0; have c1 := cellOf HX1.out 1; clear hB1))
  go_ret
  exact ⟨rfl, Below.to HB1.out hB99 (Nat.le_refl _)⟩
set_option maxRecDepth 100000 in
set_option maxHeartbeats 8000000 in
theorem optionsStricter_errF (m : Mo) (f r : List Int) (ov rv fv gv : Value) (w : World) (hs : SizedM m) (h : MoAt w w.heap.size ov rv m) (hif : Ints w w.heap.size fv f) (hfl : f.length ≤ maxLen) (hir : Ints w w.heap.size gv r) (hrl : r.length ≤ maxLen) (hlg : largeB m = false) (h11 : m.rules.length ≤ 11) (z1 : m.errF [f] ≠ 0) :
    Calls Try.prog 13 #[.agg #[ov, rv], fv, gv] w fun e w' => e = .returned (.bool true) ∧ Below w.heap.size w w' := by
  obtain ⟨A, cap, hov⟩ := Sl.form h.o
  have H := hide h
  have HS := hide hs
  have HIF := hide hif
  have HIR := hide hir
  obtain ⟨fvs, ⟨Ar, bl, offl, capr, hrv, hncl, hAl, hcl⟩, hfi⟩ := h.r
  have hvr : Reads w w.heap.size 1 Ar m.rules.length (flat m.rules.length 1 (fun i _ => fvs i)) := Sl.reads ⟨Ar, bl, offl, capr, rfl, hncl, hAl, hcl⟩ (by omega)
  have hvo : ∀ u ∈ flat m.rules.length 1 (fun i _ => fvs i), u.oneCell' = true := fun u hu => by
    obtain ⟨k, hk, hku⟩ := List.getElem_of_mem hu
    obtain ⟨i, j, hi, _, _, hue⟩ := flat_inv (by omega) ((List.getElem?_eq_getElem hk).trans (congrArg some hku))
    obtain ⟨Ax, capx, hx⟩ := Sl.form (hfi i hi)
    rw [hue, hx]; rfl
  have HVR := hide hvr
  have HVO := hide hvo
  have HFI := hide hfi
  obtain ⟨Af, capf, hfv⟩ := Sl.form hif
  obtain ⟨Ag, capg, hgv⟩ := Sl.form hir
  subst hov hrv hfv hgv
  clear h hs hif hir hvr hvo hfi hncl hAl hcl
  have HLG := hide hlg
  have q0 : decide ((11 : Int) < (m.rules.length : Int)) = false := by simp; omega
  obtain ⟨x1, hx1⟩ : ∃ z, m.errF [f] = z := ⟨_, rfl⟩
  rw [hx1] at z1
  have hz1 : (x1 != 0) = true := by simpa using z1
  have HE1 := hide hx1
  clear hx1 z1 h11 hlg
  go_enter Try.func13, Try.ntmps13
  go_upto_region 1 with (fail)
  generalize hw0 : World.alloc _ _ = w0
  obtain ⟨hb0, hB0, hs0⟩ := alloc1 hw0
  clear hw0
  have HX0 := hide hb0
  have HB0 := hide hB0
  have c0 := cellOf hb0 0
  have c1 := cellOf hb0 1
  clear hb0 hB0 hs0
  go_wp2_with (first | (go_at_call 20; refine (works_any _).mono ?_; rintro e w99 ⟨rfl, hB99⟩) | (go_at_call 27; refine (rCheckFormula_any m f _ _ _ _ HS.out hfl (H.out.up HB1.out) (HIF.out.up HB1.out)).mono ?_; rw [HE1.out]; rintro e w2 ⟨rfl, hB2⟩; have HB2 : Hid (Below w.heap.size w w2) := Below.to HB1.out hB2 (Nat.le_refl _); have HX2 := hide (box_to HX1.out hB2); (try clear c0 c1); have c0 := cellOf HX2.out 0; have c1 := cellOf HX2.out 1; clear hB2) | (go_at_call 19; refine (Large_any m _ _ _ (H.out.up HB0.out)).mono ?_; rw [HLG.out]; rintro e w1 ⟨rfl, hB1⟩; have HB1 : Hid (Below w.heap.size w w1) := Below.to HB0.out hB1 (Nat.le_refl _); have HX1 := hide (box_to HX0.out hB1); (try clear c0 c1); have c0 := cellOf HX1.out 0; have c1 := cellOf HX1.out 1; clear hB1))
  go_ret
  exact ⟨rfl, Below.to HB2.out hB99 (Nat.le_refl _)⟩
set_option maxRecDepth 100000 in
set_option maxHeartbeats 8000000 in
theorem optionsStricter_errR (m : Mo) (f r : List Int) (ov rv fv gv : Value) (w : World) (hs : SizedM m) (h : MoAt w w.heap.size ov rv m) (hif : Ints w w.heap.size fv f) (hfl : f.length ≤ maxLen) (hir : Ints w w.heap.size gv r) (hrl : r.length ≤ maxLen) (hlg : largeB m = false) (h11 : m.rules.length ≤ 11) (z1 : m.errF [f] = 0) (z2 : m.errF [r] ≠ 0) :
    Calls Try.prog 13 #[.agg #[ov, rv], fv, gv] w fun e w' => e = .returned (.bool true) ∧ Below w.heap.size w w' := by
  obtain ⟨A, cap, hov⟩ := Sl.form h.o
  have H := hide h
  have HS := hide hs
  have HIF := hide hif
  have HIR := hide hir
  obtain ⟨fvs, ⟨Ar, bl, offl, capr, hrv, hncl, hAl, hcl⟩, hfi⟩ := h.r
  have hvr : Reads w w.heap.size 1 Ar m.rules.length (flat m.rules.length 1 (fun i _ => fvs i)) := Sl.reads ⟨Ar, bl, offl, capr, rfl, hncl, hAl, hcl⟩ (by omega)
  have hvo : ∀ u ∈ flat m.rules.length 1 (fun i _ => fvs i), u.oneCell' = true := fun u hu => by
    obtain ⟨k, hk, hku⟩ := List.getElem_of_mem hu
    obtain ⟨i, j, hi, _, _, hue⟩ := flat_inv (by omega) ((List.getElem?_eq_getElem hk).trans (congrArg some hku))
    obtain ⟨Ax, capx, hx⟩ := Sl.form (hfi i hi)
    rw [hue, hx]; rfl
  have HVR := hide hvr
  have HVO := hide hvo
  have HFI := hide hfi
  obtain ⟨Af, capf, hfv⟩ := Sl.form hif
  obtain ⟨Ag, capg, hgv⟩ := Sl.form hir
  subst hov hrv hfv hgv
  clear h hs hif hir hvr hvo hfi hncl hAl hcl
  have HLG := hide hlg
  have HE1 := hide z1
  have q0 : decide ((11 : Int) < (m.rules.length : Int)) = false := by simp; omega
  obtain ⟨x1, hx1⟩ : ∃ z, m.errF [r] = z := ⟨_, rfl⟩
  rw [hx1] at z2
  have hz1 : (x1 != 0) = true := by simpa using z2
  have HE2 := hide hx1
  clear hx1 z1 z2 h11 hlg
  go_enter Try.func13, Try.ntmps13
  go_upto_region 1 with (fail)
  generalize hw0 : World.alloc _ _ = w0
  obtain ⟨hb0, hB0, hs0⟩ := alloc1 hw0
  clear hw0
  have HX0 := hide hb0
  have HB0 := hide hB0
  have c0 := cellOf hb0 0
  have c1 := cellOf hb0 1
  clear hb0 hB0 hs0
  go_wp2_with (first | (go_at_call 20; refine (works_any _).mono ?_; rintro e w99 ⟨rfl, hB99⟩) | (go_at_call 27; refine (rCheckFormula_any m r _ _ _ _ HS.out hrl (H.out.up HB2.out) (HIR.out.up HB2.out)).mono ?_; rw [HE2.out]; rintro e w3 ⟨rfl, hB3⟩; have HB3 : Hid (Below w.heap.size w w3) := Below.to HB2.out hB3 (Nat.le_refl _); have HX3 := hide (box_to HX2.out hB3); (try clear c0 c1); have c0 := cellOf HX3.out 0; have c1 := cellOf HX3.out 1; clear hB3) | (go_at_call 27; refine (rCheckFormula_any m f _ _ _ _ HS.out hfl (H.out.up HB1.out) (HIF.out.up HB1.out)).mono ?_; rw [HE1.out]; rintro e w2 ⟨rfl, hB2⟩; have HB2 : Hid (Below w.heap.size w w2) := Below.to HB1.out hB2 (Nat.le_refl _); have HX2 := hide (box_to HX1.out hB2); (try clear c0 c1); have c0 := cellOf HX2.out 0; have c1 := cellOf HX2.out 1; clear hB2) | (go_at_call 19; refine (Large_any m _ _ _ (H.out.up HB0.out)).mono ?_; rw [HLG.out]; rintro e w1 ⟨rfl, hB1⟩; have HB1 : Hid (Below w.heap.size w w1) := Below.to HB0.out hB1 (Nat.le_refl _); have HX1 := hide (box_to HX0.out hB1); (try clear c0 c1); have c0 := cellOf HX1.out 0; have c1 := cellOf HX1.out 1; clear hB1))
  go_ret
  exact ⟨rfl, Below.to HB3.out hB99 (Nat.le_refl _)⟩
theorem optionsStricter_walk (m : Mo) (f r : List Int) (ov rv fv gv : Value) (w : World) (hs : SizedM m) (h : MoAt w w.heap.size ov rv m) (hif : Ints w w.heap.size fv f) (hfl : f.length ≤ maxLen) (hir : Ints w w.heap.size gv r) (hrl : r.length ≤ maxLen) :
    Calls Try.prog 13 #[.agg #[ov, rv], fv, gv] w fun e w' => e = .returned (.bool true) ∧ Below w.heap.size w w' := by
  cases hlg : largeB m with
  | true => exact optionsStricter_large m f r ov rv fv gv w hs h hif hfl hir hrl hlg
  | false =>
    rcases Nat.lt_or_ge 11 m.rules.length with h11 | h11
    · exact optionsStricter_rules m f r ov rv fv gv w hs h hif hfl hir hrl hlg h11
    · by_cases z1 : m.errF [f] = 0
      · by_cases z2 : m.errF [r] = 0
        · exact optionsStricter_ok m f r ov rv fv gv w hs h hif hfl hir hrl hlg h11 z1 z2
        · exact optionsStricter_errR m f r ov rv fv gv w hs h hif hfl hir hrl hlg h11 z1 z2
      · exact optionsStricter_errF m f r ov rv fv gv w hs h hif hfl hir hrl hlg h11 z1

theorem own_OptionsStricter : ownKnob Try.prog.godebug = none := by kernel_rfl
theorem laid_OptionsStricter : laidOutB Try.prog = true := by kernel_rfl
theorem par_OptionsStricter : ∀ t ∈ Try.f13.params.toList, Try.prog.readableRec t = true ∧ t < Try.prog.types.size := by
  rw [Try.params13]
  intro t ht
  simp only [List.mem_cons, List.not_mem_nil, or_false] at ht
  rcases ht with rfl | rfl | rfl <;> exact ⟨by kernel_rfl, of_decide_eq_true (by kernel_rfl)⟩
set_option maxRecDepth 100000 in
theorem optionsStricter_lifted (os : Os) (started : os.Started) (H : Type) (enc : TypeId × Value → H) :
    ReturnsInHanded {} Try.checked os 13 .any (Rows.optionsStricterSpec.pre6 enc Try.prog Try.f13 Rows.optionsStricterRow.domain false) (Rows.optionsStricterSpec.post enc Try.prog Try.f13 false true false false) := by
  refine returnsInHanded_of_change (C := Try.checked) own_OptionsStricter started (by kernel_rfl) Try.func13
    (ChangeSpec.witness6 (enc := enc) (C := Try.checked) false ⟨#[], #[.agg #[.slice none 0 0, .slice none 0 0], .slice none 0 0, .slice none 0 0], []⟩ 8 (by kernel_rfl) (by kernel_rfl) (by kernel_rfl) (by kernel_rfl)) ?_
  intro W base args ds gs before hval0 hW hcnd _
  have hval : ∀ (j : Nat) t v, Try.f13.params[j]? = some t → args[j]? = some v → Value.okWide Try.prog W .any base t v := hval0
  have hW' := hW
  obtain ⟨p, q, hA0, hV, rfl, hfz, hnd⟩ := hW
  have hA : DataW.TrodAll enc Try.prog W 0 (fun _ => true) true Try.f13.params.toList args.toList ds p := hA0
  have hAll := hA
  have hltp : ∀ x ∈ p, x.block < W.heap.size := fun x hx => hW'.lt x (List.mem_append_left _ hx)
  rw [Try.params13] at hA hval
  obtain ⟨v0, v1, v2, d0, d1, d2, p0, p1, p2, rfl, rfl, rfl, h0, h1, h2⟩ := trodAll_three hA
  obtain ⟨rfl, rfl⟩ := trodVars_none hV
  obtain ⟨ov, rv, m, rfl, hmo, hsz⟩ := open_model (hval 0 25 v0 rfl rfl) h0
  obtain ⟨f, hf, hfl, _⟩ := open_formula Try.underlying35 (hval 1 35 v1 rfl rfl) h1
  obtain ⟨g, hg, hgl, _⟩ := open_formula Try.underlying35 (hval 2 35 v2 rfl rfl) h2
  refine (optionsStricter_walk m f g ov rv v1 v2 W hsz hmo hf hfl hg hgl).mono fun e W2 ⟨he, hb⟩ => ?_
  subst he
  exact ⟨_, rfl, post_of_below (pv := []) hW' (fun _ _ _ => trodAll_mk1 (shut_bool Try.underlying4 _)) (fun sp hsp => trodAll_stays laid_OptionsStricter hb sp _ _ _ _ par_OptionsStricter hAll hltp (fun x hx => hsp x (List.mem_append_left _ hx))) (fun _ _ => rfl) rfl hb
    (ok_one (by kernel_rfl) rfl (okWide_bool_mk Try.underlying4 _))⟩
theorem optionsStricter_holds : Rows.OptionsStricterSaid :=
  OpenClaim.holds_of_wide 13 Try.f13 rfl rfl rfl rfl rfl rfl rfl ⟨rfl, rfl, rfl, rfl, rfl⟩ rfl rfl rfl rfl rfl (by kernel_rfl) Try.func13 (by kernel_rfl)
    (of_decide_eq_true (by kernel_rfl)) (by unfold Func.isWrapper; first | (rw [if_pos (by decide +kernel)]; kernel_rfl) | (rw [if_neg (by decide +kernel)]; exact ⟨rfl, rfl⟩))
    (fun os started H enc _ => optionsStricter_lifted os started H enc)
#print axioms optionsStricter_holds

end Go.Proofs.Ytohofcmikfkilaa

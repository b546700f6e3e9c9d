/- Parse answers as the elder program's Parse does: for every model and every text of at most 2000 bytes, or more than MaxText. -/
import Derived.Test.YtjimbcklnnhloaaDoorRows
import Derived.Test.YtjimbcklnnhloaaDoorTie
import Derived.Test.YtjimbcklnnhloaaDoorCards
import Derived.Test.YtjimbcklnnhloaaDoorGP3
import Derived.Test.YtjimbcklnnhloaaDoorGP6
import Derived.Deep.RegionHeld3
import Derived.Deep.DrawnRows
import Derived.Lib.LaidTab
import Derived.LaidMore
import Derived.Stop.Joined
import Derived.SevenTiedAt
namespace Go.Proofs.YtjimbcklnnhloaaDoor
open Go.Joins Go.ChangeShapes Go.WideShapes Go.ChangeAt Go.RowKit Go.Deep
set_option linter.unusedVariables false
set_option linter.unusedSimpArgs false
set_option maxRecDepth 100000 in
set_option maxHeartbeats 4000000 in
theorem optionsParses_walk (m : Mo) (s : ByteArray) (ov rv : Value) (w : World) (hs : SizedM m) (hm : s.size ≤ maxLen) (h : MoAt w w.heap.size ov rv m) (hsg : SgnAt w 0) (h0 : 0 < w.heap.size) :
    Calls Tryd.prog 3 #[.agg #[ov, rv], .string s] w fun e w' => e = .returned (.bool true) ∧ Below w.heap.size w w' := by
  obtain ⟨A, cap, hov⟩ := Sl.form h.o
  obtain ⟨Ar, capr, hrv⟩ := h.r.form
  have H := hide h
  have HS := hide hs
  have HSG := hide hsg
  have HM := hide hm
  subst hov hrv
  unfold maxLen at hm
  clear h hs hsg
  by_cases hb : 2000 < s.size ∧ s.size ≤ 65536
  · have e1 : decide ((2000 : Int) < (s.size : Int)) = true := by simp; omega
    have e2 : decide ((s.size : Int) ≤ 65536) = true := by simp; omega
    have e3 : (2000 : Int) < (s.size : Int) := by omega
    have e4 : (s.size : Int) ≤ 65536 := by omega
    clear hb
    go_enter Tryd.func3, Tryd.ntmps3
    go_upto_region 2 with (fail)
    generalize hw0 : World.alloc _ _ = w0
    obtain ⟨hb0, hB0, hs0⟩ := alloc1 hw0
    clear hw0
    have HB0 := hide hB0
    clear hb0 hB0
    go_wp2_with (go_at_call 5; refine (works_any _).mono ?_; rintro e w5 ⟨rfl, hB5⟩)
    go_ret
    exact ⟨rfl, Below.to HB0.out hB5 (Nat.le_refl _)⟩
  · have hl : s.size ≤ 2000 ∨ 65536 < s.size := by omega
    obtain ⟨z, hz⟩ : ∃ z, parE m s = z := ⟨_, rfl⟩
    obtain ⟨f, hf⟩ : ∃ f, parF m s = f := ⟨_, rfl⟩
    have hf1 : f.length ≤ 100 := by rw [← hf]; exact parF_len m s
    have HZ := hide hz
    have HF := hide hf
    have HL := hide hl
    have HF1 := hide hf1
    have hsb : Hid (∀ w1, Below w.heap.size w w1 → SgnAt w1 0) := fun w1 hB j hj => by
      have h1 := HSG.out j hj
      rw [← hB.cell (p := ⟨0, j, none⟩) h0] at h1
      exact h1
    clear hz hf hl hf1
    by_cases h2 : 2000 < s.size
    · have e3 : (2000 : Int) < (s.size : Int) := by omega
      have e4 : ¬ (s.size : Int) ≤ 65536 := by omega
      have e5 : decide ((2000 : Int) < (s.size : Int)) = true := by simpa using e3
      have e6 : decide ((s.size : Int) ≤ 65536) = false := by simpa using e4
      clear hb h2
      go_enter Tryd.func3, Tryd.ntmps3
      go_upto_region 3 with (fail)
      generalize hw0 : World.alloc _ _ = w0
      obtain ⟨hb0, hB0, hs0⟩ := alloc1 hw0
      clear hw0
      have HB0 := hide hB0
      have HX0 := hide hb0
      have c0 := cellOf hb0 0
      have c1 := cellOf hb0 1
      clear hb0 hB0
      go_upto_region 4 with (go_at_call 6; refine (Parse_any m s _ _ _ HS.out (H.out.up HB0.out) HM.out HL.out (hsb.out _ HB0.out) (by omega)).mono ?_; rw [HZ.out, HF.out]; rintro e w1 ⟨v1, rfl, hi1, hB1⟩; have HI1 := hide hi1; have hX1 := box_to HX0.out hB1; have HB1 : Hid (Below w.heap.size w w1) := Below.to HB0.out hB1 (Nat.le_refl _); have d0 := cellOf hX1 0; have d1 := cellOf hX1 1; clear hB1 hX1 c0 c1 hi1)
      go_upto_region 5 with (go_at_call 7; refine (rParse_any m s _ _ _ HS.out (H.out.up HB1.out) HM.out HL.out).mono ?_; rw [HZ.out, HF.out]; rintro e w2 ⟨v2, rfl, hi2, hB2⟩; have HI2 := hide hi2; have HI3 := hide (HI1.out.up hB2); have HB2 : Hid (Below w.heap.size w w2) := Below.to HB1.out hB2 (Nat.le_refl _); clear hB2 hi2 d0 d1)
      have hsi := sameInts_any f f v1 v2 w2 HI3.out HI2.out (by have := HF1.out; omega) (by have := HF1.out; unfold maxLen; omega)
      rw [decide_eq_true rfl] at hsi
      have HSI := hide hsi
      clear hsi
      go_wp2_with (first | (go_at_call 8; refine HSI.out.mono ?_; rintro e w3 ⟨rfl, hB3⟩; have HB3 := hide (Below.to HB2.out hB3 (Nat.le_refl _)); clear hB3) | (go_at_call 5; refine (works_any _).mono ?_; rintro e w5 ⟨rfl, hB5⟩))
      go_ret
      exact ⟨rfl, Below.to HB3.out hB5 (Nat.le_refl _)⟩
    · have e3 : ¬ (2000 : Int) < (s.size : Int) := by omega
      have e5 : decide ((2000 : Int) < (s.size : Int)) = false := by simpa using e3
      clear hb h2
      go_enter Tryd.func3, Tryd.ntmps3
      go_upto_region 3 with (fail)
      generalize hw0 : World.alloc _ _ = w0
      obtain ⟨hb0, hB0, hs0⟩ := alloc1 hw0
      clear hw0
      have HB0 := hide hB0
      have HX0 := hide hb0
      have c0 := cellOf hb0 0
      have c1 := cellOf hb0 1
      clear hb0 hB0
      go_upto_region 4 with (go_at_call 6; refine (Parse_any m s _ _ _ HS.out (H.out.up HB0.out) HM.out HL.out (hsb.out _ HB0.out) (by omega)).mono ?_; rw [HZ.out, HF.out]; rintro e w1 ⟨v1, rfl, hi1, hB1⟩; have HI1 := hide hi1; have hX1 := box_to HX0.out hB1; have HB1 : Hid (Below w.heap.size w w1) := Below.to HB0.out hB1 (Nat.le_refl _); have d0 := cellOf hX1 0; have d1 := cellOf hX1 1; clear hB1 hX1 c0 c1 hi1)
      go_upto_region 5 with (go_at_call 7; refine (rParse_any m s _ _ _ HS.out (H.out.up HB1.out) HM.out HL.out).mono ?_; rw [HZ.out, HF.out]; rintro e w2 ⟨v2, rfl, hi2, hB2⟩; have HI2 := hide hi2; have HI3 := hide (HI1.out.up hB2); have HB2 : Hid (Below w.heap.size w w2) := Below.to HB1.out hB2 (Nat.le_refl _); clear hB2 hi2 d0 d1)
      have hsi := sameInts_any f f v1 v2 w2 HI3.out HI2.out (by have := HF1.out; omega) (by have := HF1.out; unfold maxLen; omega)
      rw [decide_eq_true rfl] at hsi
      have HSI := hide hsi
      clear hsi
      go_wp2_with (first | (go_at_call 8; refine HSI.out.mono ?_; rintro e w3 ⟨rfl, hB3⟩; have HB3 := hide (Below.to HB2.out hB3 (Nat.le_refl _)); clear hB3) | (go_at_call 5; refine (works_any _).mono ?_; rintro e w5 ⟨rfl, hB5⟩))
      go_ret
      exact ⟨rfl, Below.to HB3.out hB5 (Nat.le_refl _)⟩

def laidL : List (String × DataW Unit) := [("ignition/options.signs", Rows.laid_ignition_options_signs)]
theorem gSigns : Tryd.prog.globalNamed "ignition/options.signs" = some 0 := by kernel_rfl
theorem tSigns : (Tryd.prog.globals[0]?).map (·.type) = some 62 := by kernel_rfl
theorem door_met (os : Os) (args : Array Value) : laidMetH Tryd.prog laidL ((World.doorLaid Tryd.prog 14 os).forCall (fun _ _ => 0) ⟨#[], args, []⟩).memory :=
  laidMetH_of_parts3 (fuel := 8) (laidMet_of_run' 8 (by kernel_rfl) (by kernel_rfl)) (by kernel_rfl) (by kernel_rfl)
theorem sgn_of_laid {W : World} (h : laidMetH Tryd.prog laidL W) : SgnAt W 0 := by
  rw [MakeChecks.laidMetH_plain _ _ _ (by kernel_rfl)] at h
  have hT : Lib.TabIs Tryd.prog W "ignition/options.signs" .u8 [38, 124, 61] := Lib.tabIs_of_head (rest := []) gSigns tSigns Tryd.underlying62 Tryd.underlying5 (by kernel_rfl) (by kernel_rfl) h
  intro k hk
  rw [hT.cell gSigns k hk]
  obtain rfl | rfl | rfl : k = 0 ∨ k = 1 ∨ k = 2 := by omega
  all_goals rfl
theorem sgn_lt {W : World} (h : SgnAt W 0) : 0 < W.heap.size := by
  have h1 := h 0 (by omega)
  rcases Nat.eq_zero_or_pos W.heap.size with h2 | h2
  · simp [World.cell?, h2] at h1
  · exact h2
theorem own_OptionsParses : ownKnob Tryd.prog.godebug = none := by kernel_rfl
theorem laid_OptionsParses : laidOutB Tryd.prog = true := by kernel_rfl
theorem par_OptionsParses : ∀ t ∈ Tryd.f3.params.toList, Tryd.prog.readableRec t = true ∧ t < Tryd.prog.types.size := by
  rw [Tryd.params3]
  intro t ht
  simp only [List.mem_cons, List.not_mem_nil, or_false] at ht
  rcases ht with rfl | rfl <;> exact ⟨by kernel_rfl, of_decide_eq_true (by kernel_rfl)⟩
set_option maxRecDepth 100000 in
theorem optionsParses_lifted (os : Os) (started : os.Started) (H : Type) (enc : TypeId × Value → H) :
    ReturnsInHanded {} Tryd.checked os 3 .any (fun w args => (Rows.optionsParsesSpec.pre enc Tryd.prog Tryd.f3 [] false w args ∧ laidMetH Tryd.prog laidL w) ∧ sizedMet enc Tryd.prog Tryd.f3 (OpenSpec.ofChange Rows.optionsParsesSpec) false w args) (Rows.optionsParsesSpec.post enc Tryd.prog Tryd.f3 false true false false) := by
  refine returnsInHanded_of_change_and (C := Tryd.checked) (X := fun w _ => laidMetH Tryd.prog laidL w) (fun _ _ _ hh h => h.of_heap hh) own_OptionsParses started (by kernel_rfl) Tryd.func3
    (ChangeSpec.witness_shaped (enc := enc) (C := Tryd.checked) (os := os) (X := fun w _ => laidMetH Tryd.prog laidL w) false (World.doorLaid Tryd.prog 14 os) #[.agg #[.slice none 0 0, .slice none 0 0], .string ⟨#[]⟩] 8 rfl (World.shaped_of_RefB (by kernel_rfl) (by kernel_rfl)) (by kernel_rfl) (by kernel_rfl) (by kernel_rfl) (door_met os _)) ?_
  intro W base args ds gs before hval0 hW _ _ hL _
  have hsg := sgn_of_laid hL
  have hW0 := sgn_lt hsg
  have hval : ∀ (j : Nat) t v, Tryd.f3.params[j]? = some t → args[j]? = some v → Value.okWide Tryd.prog W .any base t v := hval0
  have hW' := hW
  obtain ⟨p, q, hA0, hV, rfl, hfz, hnd⟩ := hW
  have hA : DataW.TrodAll enc Tryd.prog W 0 (fun _ => true) true Tryd.f3.params.toList args.toList ds p := hA0
  have hAll := hA
  have hltp : ∀ x ∈ p, x.block < W.heap.size := fun x hx => hW'.lt x (List.mem_append_left _ hx)
  rw [Tryd.params3] at hA hval
  obtain ⟨v0, v1, d0, d1, p0, p1, rfl, rfl, rfl, h0, h1⟩ := trodAll_two hA
  obtain ⟨rfl, rfl⟩ := trodVars_none hV
  obtain ⟨ov, rv, m, rfl, hmo, hsz⟩ := open_model (hval 0 25 v0 rfl rfl) h0
  obtain ⟨s, rfl, _, _, hsl⟩ := ChangeMaps.open_string Tryd.underlying9 (hval 1 9 v1 rfl rfl) h1
  refine (optionsParses_walk m s ov rv W hsz hsl hmo hsg hW0).mono fun e W2 ⟨he, hb⟩ => ?_
  subst he
  exact ⟨_, rfl, post_of_below (pv := []) hW' (fun _ _ _ => trodAll_mk1 (shut_bool Tryd.underlying4 _)) (fun sp hsp => trodAll_stays laid_OptionsParses hb sp _ _ _ _ par_OptionsParses hAll hltp (fun x hx => hsp x (List.mem_append_left _ hx))) (fun _ _ => rfl) rfl hb
    (ok_one (by kernel_rfl) rfl (okWide_bool_mk Tryd.underlying4 _))⟩
theorem optionsParses_holds : Rows.OptionsParsesSaid :=
  OpenClaim.holds_of_wide 3 Tryd.f3 rfl rfl rfl rfl rfl rfl rfl ⟨rfl, rfl, rfl, rfl, rfl⟩ rfl rfl rfl rfl rfl (by kernel_rfl) Tryd.func3 (by kernel_rfl)
    (of_decide_eq_true (by kernel_rfl)) (by unfold Func.isWrapper; first | (rw [if_pos (by decide +kernel)]; kernel_rfl) | (rw [if_neg (by decide +kernel)]; exact ⟨rfl, rfl⟩))
    (fun os started H enc _ => optionsParses_lifted os started H enc)
#print axioms optionsParses_holds
theorem optionsParsesCard_holds : Rows.OptionsParsesCardSaid :=
  Claim7.holds_tied_plain_at .later [] [.widerDeep] true (true, "cfc74194249655c43bc172282d134afd5ae2765dcd84a94455b04a2d50c242bc") true
    optionsParses_holds (fun _ h => by cases h) (by kernel_rfl) (fun _ h => by cases h) optionsParses_row_tie rfl ⟨rfl, rfl⟩ (by kernel_rfl) rfl
    (fun f fn hf hfn => by
      obtain rfl : f = 3 := Option.some.inj ((show Tryd.prog.funcNamed "ignition/ignitionlaw01.OptionsParses" = some 3 by kernel_rfl).symm.trans hf) |>.symm
      obtain rfl : fn = Tryd.f3 := (Option.some.inj (Tryd.func3.symm.trans hfn)).symm
      exact ⟨by kernel_rfl, fun j t ht => by
        have hm := Array.mem_of_getElem? ht
        have hall : (Tryd.f3.params.toList.all fun u => !Tryd.prog.wantsStandIn u) = true := by kernel_rfl
        exact (show Tryd.prog.wantsStandIn t = false by simpa using List.all_eq_true.1 hall t (by simpa using hm))⟩)
    (by kernel_rfl)
#print axioms optionsParsesCard_holds

end Go.Proofs.YtjimbcklnnhloaaDoor

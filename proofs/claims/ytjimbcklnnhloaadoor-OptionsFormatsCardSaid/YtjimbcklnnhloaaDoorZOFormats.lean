/- Format answers as the elder program's Format does, and Parse of what it returns is the formula: for every model and formula; no condition. -/
import Derived.Test.YtjimbcklnnhloaaDoorRows
import Derived.Test.YtjimbcklnnhloaaDoorTie
import Derived.Test.YtjimbcklnnhloaaDoorCards
import Derived.Test.YtjimbcklnnhloaaDoorGR3
import Derived.Test.YtjimbcklnnhloaaDoorGR7
import Derived.Deep.RegionHeld3
import Derived.Deep.DrawnRows
import Derived.Lib.LaidTab
import Derived.LaidMore
import Derived.Stop.Joined
import Derived.SevenTiedAt
namespace Go.Proofs.YtjimbcklnnhloaaDoor
open Go.Joins Go.ChangeShapes Go.WideShapes Go.ChangeAt Go.RowKit Go.Deep
set_option linter.unusedVariables false
set_option linter.unusedSimpArgs false
set_option maxRecDepth 100000 in
set_option maxHeartbeats 4000000 in
theorem optionsFormats_walk (m : Mo) (f : List Int) (ov rv fv : Value) (w : World) (hs : SizedM m) (hl : f.length ≤ maxLen) (h : MoAt w w.heap.size ov rv m) (hf : Ints w w.heap.size fv f) (hsg : SgnAt w 0) (h0 : 0 < w.heap.size) :
    Calls Tryd.prog 4 #[.agg #[ov, rv], fv] w fun e w' => e = .returned (.bool true) ∧ Below w.heap.size w w' := by
  obtain ⟨A, cap, hov⟩ := Sl.form h.o
  obtain ⟨Ar, capr, hrv⟩ := h.r.form
  obtain ⟨Al, capl, hlv⟩ := Sl.form hf
  subst hov hrv hlv
  have H := hide h
  have HF := hide hf
  have HS := hide hs
  have HL := hide hl
  have hsb : Hid (∀ w1, Below w.heap.size w w1 → SgnAt w1 0) := fun w1 hB => hsg.low h0 hB
  by_cases he : m.errF [f] = 0
  · obtain ⟨t, k1, k2, k3, k4, k5, k6, k7, k8, k9⟩ := fmt_term he
    have hfo := fun w1 (hB : Below w.heap.size w w1) => Format_ok m f t _ _ _ w1 hs hl (h.up hB) (hf.up hB) he k1 k2 k3 (hsb.out w1 hB) (by have := hB.size; omega) k5 (by omega) k7
    have hrf := fun w1 (hB : Below w.heap.size w w1) => rFormat_ok m f t _ _ _ w1 hs hl (h.up hB) (hf.up hB) he k1 k2 k3 k4
    have hpa := parse_fmt k1 k8 k9 k6 (by rw [← k2]; exact k3)
    have hps := fun w1 (hB : Below w.heap.size w w1) => Parse_any m ⟨(t.txt m.names).toArray⟩ _ _ w1 hs (h.up hB) (by show (t.txt m.names).toArray.size ≤ maxLen; unfold maxLen; simp; omega) (.inl (by show (t.txt m.names).toArray.size ≤ 2000; simpa using k6)) (hsb.out w1 hB) (by have := hB.size; omega)
    rw [hpa.1, hpa.2, ← k2] at hps
    obtain ⟨sx, hsx⟩ : ∃ sx : ByteArray, ⟨(t.txt m.names).toArray⟩ = sx := ⟨_, rfl⟩
    unfold ForP at hfo hrf
    rw [hsx] at hfo hrf hps
    have HFO := hide hfo
    have HRF := hide hrf
    have HPS := hide hps
    have HF1 := hide k3
    clear h hf hs hl hsg he k1 k2 k3 k4 k5 k6 k7 k8 k9 hfo hrf hps hpa hsx
    go_enter Tryd.func4, Tryd.ntmps4
    go_upto_region 1 with (fail)
    generalize hw0 : World.alloc _ _ = w0
    obtain ⟨hb0, hB0, hs0⟩ := alloc1 hw0
    clear hw0
    have HB0 := hide hB0
    have HX0 := hide hb0
    have c0 := cellOf hb0 0
    have c1 := cellOf hb0 1
    have hz0 := box_lt hb0
    clear hb0 hB0 hs0
    go_upto_region 2 with (go_at_call 9; refine (HFO.out _ HB0.out).mono ?_; rintro e w1 ⟨rfl, hB1⟩; have hX1 := box_to HX0.out hB1; have HX1 := hide hX1; have HB1 : Hid (Below w.heap.size w w1) := Below.to HB0.out hB1 (Nat.le_refl _); have d0 := cellOf hX1 0; have d1 := cellOf hX1 1; have dl := box_lt hX1; clear hB1 hX1 c0 c1 hz0)
    go_upto_region 3 with (go_at_call 10; refine (HRF.out _ HB1.out).mono ?_; rintro e w2 ⟨rfl, hB2⟩; have hX2 := box_to HX1.out hB2; have HX2 := hide hX2; have HB2 : Hid (Below w.heap.size w w2) := Below.to HB1.out hB2 (Nat.le_refl _); have e0 := cellOf hX2 0; have e1 := cellOf hX2 1; have el := box_lt hX2; clear hB2 hX2 d0 d1 dl)
    go_upto_region 8 with (go_at_call 6; refine (HPS.out _ HB2.out).mono ?_; rintro e w3 ⟨v3, rfl, hi3, hB3⟩; have HI3 := hide hi3; have HB3 : Hid (Below w.heap.size w w3) := Below.to HB2.out hB3 (Nat.le_refl _); clear hB3 hi3 e0 e1 el)
    have hsi := sameInts_any f f v3 _ w3 HI3.out (HF.out.up HB3.out) (by have := HF1.out; omega) HL.out
    rw [decide_eq_true rfl] at hsi
    have HSI := hide hsi
    clear hsi
    go_wp2_with (first | (go_at_call 8; refine HSI.out.mono ?_; rintro e w4 ⟨rfl, hB4⟩; have HB4 := hide (Below.to HB3.out hB4 (Nat.le_refl _)); clear hB4) | (go_at_call 5; refine (works_any _).mono ?_; rintro e w5 ⟨rfl, hB5⟩))
    go_ret
    exact ⟨rfl, Below.to HB4.out hB5 (Nat.le_refl _)⟩
  · have hfo := fun w1 (hB : Below w.heap.size w w1) => Format_err m f _ _ _ w1 hs hl (h.up hB) (hf.up hB) he
    have hrf := fun w1 (hB : Below w.heap.size w w1) => rFormat_err m f _ _ _ w1 hs hl (h.up hB) (hf.up hB) he
    obtain ⟨z, hz⟩ : ∃ z, m.errF [f] = z := ⟨_, rfl⟩
    have hz1 : (z != 0) = true := by rw [← hz]; simpa using he
    unfold ForP at hfo hrf
    rw [hz] at hfo hrf
    have HFO := hide hfo
    have HRF := hide hrf
    clear h hf hs hl hsg he hfo hrf hz
    go_enter Tryd.func4, Tryd.ntmps4
    go_upto_region 1 with (fail)
    generalize hw0 : World.alloc _ _ = w0
    obtain ⟨hb0, hB0, hs0⟩ := alloc1 hw0
    clear hw0
    have HB0 := hide hB0
    have HX0 := hide hb0
    have c0 := cellOf hb0 0
    have c1 := cellOf hb0 1
    have hz0 := box_lt hb0
    clear hb0 hB0 hs0
    go_upto_region 2 with (go_at_call 9; refine (HFO.out _ HB0.out).mono ?_; rintro e w1 ⟨rfl, hB1⟩; have hX1 := box_to HX0.out hB1; have HB1 : Hid (Below w.heap.size w w1) := Below.to HB0.out hB1 (Nat.le_refl _); have d0 := cellOf hX1 0; have d1 := cellOf hX1 1; have dl := box_lt hX1; clear hB1 hX1 c0 c1 hz0)
    go_upto_region 3 with (go_at_call 10; refine (HRF.out _ HB1.out).mono ?_; rintro e w2 ⟨rfl, hB2⟩; have HB2 : Hid (Below w.heap.size w w2) := Below.to HB1.out hB2 (Nat.le_refl _); clear hB2 d0 d1 dl)
    go_wp2_with (go_at_call 5; refine (works_any _).mono ?_; rintro e w5 ⟨rfl, hB5⟩)
    go_ret
    exact ⟨rfl, Below.to HB2.out hB5 (Nat.le_refl _)⟩

def laidL : List (String × DataW Unit) := [("ignition/options.signs", Rows.laid_ignition_options_signs)]
theorem gSigns : Tryd.prog.globalNamed "ignition/options.signs" = some 0 := by kernel_rfl
theorem tSigns : (Tryd.prog.globals[0]?).map (·.type) = some 62 := by kernel_rfl
theorem door_met (os : Os) (args : Array Value) : laidMetH Tryd.prog laidL ((World.doorLaid Tryd.prog 14 os).forCall (fun _ _ => 0) ⟨#[], args, []⟩).memory :=
  laidMetH_of_parts3 (fuel := 8) (laidMet_of_run' 8 (by kernel_rfl) (by kernel_rfl)) (by kernel_rfl) (by kernel_rfl)
theorem sgn_of_laid {W : World} (h : laidMetH Tryd.prog laidL W) : SgnAt W 0 := by
  rw [MakeChecks.laidMetH_plain _ _ _ (by kernel_rfl)] at h
  have hT : Lib.TabIs Tryd.prog W "ignition/options.signs" .u8 [38, 124, 61] := Lib.tabIs_of_head (rest := []) gSigns tSigns Tryd.underlying62 Tryd.underlying5 (by kernel_rfl) (by kernel_rfl) h
  intro k hk
  rw [hT.cell gSigns k hk]
  obtain rfl | rfl | rfl : k = 0 ∨ k = 1 ∨ k = 2 := by omega
  all_goals rfl
theorem sgn_lt {W : World} (h : SgnAt W 0) : 0 < W.heap.size := by
  have h1 := h 0 (by omega)
  rcases Nat.eq_zero_or_pos W.heap.size with h2 | h2
  · simp [World.cell?, h2] at h1
  · exact h2
theorem own_OptionsFormats : ownKnob Tryd.prog.godebug = none := by kernel_rfl
theorem laid_OptionsFormats : laidOutB Tryd.prog = true := by kernel_rfl
theorem par_OptionsFormats : ∀ t ∈ Tryd.f4.params.toList, Tryd.prog.readableRec t = true ∧ t < Tryd.prog.types.size := by
  rw [Tryd.params4]
  intro t ht
  simp only [List.mem_cons, List.not_mem_nil, or_false] at ht
  rcases ht with rfl | rfl <;> exact ⟨by kernel_rfl, of_decide_eq_true (by kernel_rfl)⟩
set_option maxRecDepth 100000 in
theorem optionsFormats_lifted (os : Os) (started : os.Started) (H : Type) (enc : TypeId × Value → H) :
    ReturnsInHanded {} Tryd.checked os 4 .any (fun w args => (Rows.optionsFormatsSpec.pre enc Tryd.prog Tryd.f4 [] false w args ∧ laidMetH Tryd.prog laidL w) ∧ sizedMet enc Tryd.prog Tryd.f4 (OpenSpec.ofChange Rows.optionsFormatsSpec) false w args) (Rows.optionsFormatsSpec.post enc Tryd.prog Tryd.f4 false true false false) := by
  refine returnsInHanded_of_change_and (C := Tryd.checked) (X := fun w _ => laidMetH Tryd.prog laidL w) (fun _ _ _ hh h => h.of_heap hh) own_OptionsFormats started (by kernel_rfl) Tryd.func4
    (ChangeSpec.witness_shaped (enc := enc) (C := Tryd.checked) (os := os) (X := fun w _ => laidMetH Tryd.prog laidL w) false (World.doorLaid Tryd.prog 14 os) #[.agg #[.slice none 0 0, .slice none 0 0], .slice none 0 0] 8 rfl (World.shaped_of_RefB (by kernel_rfl) (by kernel_rfl)) (by kernel_rfl) (by kernel_rfl) (by kernel_rfl) (door_met os _)) ?_
  intro W base args ds gs before hval0 hW _ _ hL _
  have hsg := sgn_of_laid hL
  have hW0 := sgn_lt hsg
  have hval : ∀ (j : Nat) t v, Tryd.f4.params[j]? = some t → args[j]? = some v → Value.okWide Tryd.prog W .any base t v := hval0
  have hW' := hW
  obtain ⟨p, q, hA0, hV, rfl, hfz, hnd⟩ := hW
  have hA : DataW.TrodAll enc Tryd.prog W 0 (fun _ => true) true Tryd.f4.params.toList args.toList ds p := hA0
  have hAll := hA
  have hltp : ∀ x ∈ p, x.block < W.heap.size := fun x hx => hW'.lt x (List.mem_append_left _ hx)
  rw [Tryd.params4] at hA hval
  obtain ⟨v0, v1, d0, d1, p0, p1, rfl, rfl, rfl, h0, h1⟩ := trodAll_two hA
  obtain ⟨rfl, rfl⟩ := trodVars_none hV
  obtain ⟨ov, rv, m, rfl, hmo, hsz⟩ := open_model (hval 0 25 v0 rfl rfl) h0
  obtain ⟨f, hf, hfl, _⟩ := open_formula Tryd.underlying28 (hval 1 28 v1 rfl rfl) h1
  refine (optionsFormats_walk m f ov rv v1 W hsz hfl hmo hf hsg hW0).mono fun e W2 ⟨he, hb⟩ => ?_
  subst he
  exact ⟨_, rfl, post_of_below (pv := []) hW' (fun _ _ _ => trodAll_mk1 (shut_bool Tryd.underlying4 _)) (fun sp hsp => trodAll_stays laid_OptionsFormats hb sp _ _ _ _ par_OptionsFormats hAll hltp (fun x hx => hsp x (List.mem_append_left _ hx))) (fun _ _ => rfl) rfl hb
    (ok_one (by kernel_rfl) rfl (okWide_bool_mk Tryd.underlying4 _))⟩
theorem optionsFormats_holds : Rows.OptionsFormatsSaid :=
  OpenClaim.holds_of_wide 4 Tryd.f4 rfl rfl rfl rfl rfl rfl rfl ⟨rfl, rfl, rfl, rfl, rfl⟩ rfl rfl rfl rfl rfl (by kernel_rfl) Tryd.func4 (by kernel_rfl)
    (of_decide_eq_true (by kernel_rfl)) (by unfold Func.isWrapper; first | (rw [if_pos (by decide +kernel)]; kernel_rfl) | (rw [if_neg (by decide +kernel)]; exact ⟨rfl, rfl⟩))
    (fun os started H enc _ => optionsFormats_lifted os started H enc)
#print axioms optionsFormats_holds
theorem optionsFormatsCard_holds : Rows.OptionsFormatsCardSaid :=
  Claim7.holds_tied_plain_at .later [] [.widerDeep] true (true, "cfc74194249655c43bc172282d134afd5ae2765dcd84a94455b04a2d50c242bc") true
    optionsFormats_holds (fun _ h => by cases h) (by kernel_rfl) (fun _ h => by cases h) optionsFormats_row_tie rfl ⟨rfl, rfl⟩ (by kernel_rfl) rfl
    (fun f fn hf hfn => by
      obtain rfl : f = 4 := Option.some.inj ((show Tryd.prog.funcNamed "ignition/ignitionlaw01.OptionsFormats" = some 4 by kernel_rfl).symm.trans hf) |>.symm
      obtain rfl : fn = Tryd.f4 := (Option.some.inj (Tryd.func4.symm.trans hfn)).symm
      exact ⟨by kernel_rfl, fun j t ht => by
        have hm := Array.mem_of_getElem? ht
        have hall : (Tryd.f4.params.toList.all fun u => !Tryd.prog.wantsStandIn u) = true := by kernel_rfl
        exact (show Tryd.prog.wantsStandIn t = false by simpa using List.all_eq_true.1 hall t (by simpa using hm))⟩)
    (by kernel_rfl)
#print axioms optionsFormatsCard_holds

end Go.Proofs.YtjimbcklnnhloaaDoor

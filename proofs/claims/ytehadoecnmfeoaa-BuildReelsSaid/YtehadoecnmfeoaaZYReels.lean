/- Reels returns what the document specifies: for every list of pieces and length; no condition. -/
import Derived.Test.YtehadoecnmfeoaaRows
import Derived.Test.YtehadoecnmfeoaaGBR32
import Derived.Deep.DeepMust
namespace Go.Proofs.Ytehadoecnmfeoaa
open Go.Joins Go.ChangeShapes Go.WideShapes Go.ChangeAt Go.RowKit Go.Deep
set_option linter.unusedVariables false
set_option linter.unusedSimpArgs false
theorem relR_len (ps : List Int) (len : Int) : (relR ps len).length ≤ 12 := by
  unfold relR
  by_cases h : relB ps len = true
  · rw [if_pos h, relL_len h]
    exact relB_len h
  · rw [if_neg h]; simp
set_option maxRecDepth 100000 in
set_option maxHeartbeats 4000000 in
theorem buildReels_walk (ps : List Int) (A : Option Addr) (q : Nat) (len : Int) (w : World) (hm : ps.length ≤ maxLen) (h : Ints w w.heap.size (.slice A ps.length q) ps) :
    Calls Try.prog 3 #[.slice A ps.length q, .int .i64 len] w fun e w' => e = .returned (.bool true) ∧ Below w.heap.size w w' := by
  have H := hide h
  have HM := hide hm
  clear h
  unfold maxLen at hm
  by_cases h9 : 9 < ps.length ∧ ps.length ≤ 12
  · have g1 : (9 : Int) < (ps.length : Int) := by omega
    have g2 : decide ((ps.length : Int) ≤ 12) = true := by simp; omega
    have g3 : decide ((9 : Int) < (ps.length : Int)) = true := by simp; omega
    clear h9
    go_enter Try.func3, Try.ntmps3
    go_wp2_with (go_at_call 7; refine (works_build _).mono ?_; rintro e w3 ⟨rfl, hB3⟩)
    go_ret
    exact ⟨rfl, hB3⟩
  have hrl := relR_len ps len
  obtain ⟨er, her⟩ : ∃ z, relE ps len = z := ⟨_, rfl⟩
  obtain ⟨L, hL⟩ : ∃ z, relR ps len = z := ⟨_, rfl⟩
  rw [hL] at hrl
  have HER := hide her
  have HL := hide hL
  have HRL := hide hrl
  have n1 : (er == er) = true := by simp
  clear her hL hrl
  go_enter Try.func3, Try.ntmps3
  by_cases h1 : 9 < ps.length
  · have g1 : (9 : Int) < (ps.length : Int) := by omega
    have g2 : ¬ (ps.length : Int) ≤ 12 := by omega
    have g3 : decide ((9 : Int) < (ps.length : Int)) = true := by simp; omega
    have g4 : decide ((ps.length : Int) ≤ 12) = false := by simp; omega
    clear h9 h1
    go_wp2_with (first
      | (go_at_call 8; refine (Reels_any ps len A q _ HM.out H.out).mono ?_; rw [HER.out, HL.out]; rintro e w1 ⟨v1, rfl, hv1, hB1⟩; have HV1 := hide hv1; have HB1 := hide hB1; clear hv1 hB1)
      | (go_at_call 9; refine (rReels_any ps len A q _ HM.out (Ints.up H.out HB1.out)).mono ?_; rw [HER.out, HL.out]; rintro e w2 ⟨v2, rfl, hv2, hB2⟩; have HV2 := hide hv2; have HV3 := hide (Sl.up HV1.out hB2); have HB2 := hide (Below.to HB1.out hB2 (Nat.le_refl _)); clear hv2 hB2)
      | (go_at_call 10; refine (sameInts12_any (L.map fun (n : Nat) => (n : Int)) _ _ _ (by have := HRL.out; unfold maxLen; simp; omega) (Nods.ints7 HV3.out) (Nods.ints7 HV2.out)).mono ?_; rintro e w3 ⟨rfl, hB3⟩; have HB3 := hide (Below.to HB2.out hB3 (Nat.le_refl _)); clear hB3)
      | (go_at_call 7; refine (works_build _).mono ?_; rintro e w4 ⟨rfl, hB4⟩))
    go_ret
    exact ⟨rfl, Below.to HB3.out hB4 (Nat.le_refl _)⟩
  · have g1 : ¬ (9 : Int) < (ps.length : Int) := by omega
    have g3 : decide ((9 : Int) < (ps.length : Int)) = false := by simp; omega
    clear h9 h1
    go_wp2_with (first
      | (go_at_call 8; refine (Reels_any ps len A q _ HM.out H.out).mono ?_; rw [HER.out, HL.out]; rintro e w1 ⟨v1, rfl, hv1, hB1⟩; have HV1 := hide hv1; have HB1 := hide hB1; clear hv1 hB1)
      | (go_at_call 9; refine (rReels_any ps len A q _ HM.out (Ints.up H.out HB1.out)).mono ?_; rw [HER.out, HL.out]; rintro e w2 ⟨v2, rfl, hv2, hB2⟩; have HV2 := hide hv2; have HV3 := hide (Sl.up HV1.out hB2); have HB2 := hide (Below.to HB1.out hB2 (Nat.le_refl _)); clear hv2 hB2)
      | (go_at_call 10; refine (sameInts12_any (L.map fun (n : Nat) => (n : Int)) _ _ _ (by have := HRL.out; unfold maxLen; simp; omega) (Nods.ints7 HV3.out) (Nods.ints7 HV2.out)).mono ?_; rintro e w3 ⟨rfl, hB3⟩; have HB3 := hide (Below.to HB2.out hB3 (Nat.le_refl _)); clear hB3)
      | (go_at_call 7; refine (works_build _).mono ?_; rintro e w4 ⟨rfl, hB4⟩))
    go_ret
    exact ⟨rfl, Below.to HB3.out hB4 (Nat.le_refl _)⟩
theorem own_BuildReels : ownKnob Try.prog.godebug = none := by kernel_rfl
theorem laid_BuildReels : laidOutB Try.prog = true := by kernel_rfl
theorem par_BuildReels : ∀ t ∈ Try.f3.params.toList, Try.prog.readableRec t = true ∧ t < Try.prog.types.size := by
  rw [Try.params3]
  intro t ht
  simp only [List.mem_cons, List.not_mem_nil, or_false] at ht
  rcases ht with rfl | rfl <;> exact ⟨by kernel_rfl, of_decide_eq_true (by kernel_rfl)⟩
set_option maxRecDepth 100000 in
theorem buildReels_lifted (os : Os) (started : os.Started) (H : Type) (enc : TypeId × Value → H) :
    ReturnsInHanded {} Try.checked os 3 .any (Rows.buildReelsSpec.pre6 enc Try.prog Try.f3 Rows.buildReelsRow.domain false) (Rows.buildReelsSpec.post enc Try.prog Try.f3 false true false false) := by
  refine returnsInHanded_of_change (C := Try.checked) own_BuildReels started (by kernel_rfl) Try.func3
    (ChangeSpec.witness6 (enc := enc) (C := Try.checked) false ⟨#[], #[.slice none 0 0, .int .i64 0], []⟩ 8 (by kernel_rfl) (by kernel_rfl) (by kernel_rfl) (by kernel_rfl)) ?_
  intro W base args ds gs before hval0 hW hcnd _
  have hval : ∀ (j : Nat) t v, Try.f3.params[j]? = some t → args[j]? = some v → Value.okWide Try.prog W .any base t v := hval0
  have hW' := hW
  obtain ⟨p, q, hA0, hV, rfl, hfz, hnd⟩ := hW
  have hA : DataW.TrodAll enc Try.prog W 0 (fun _ => true) true Try.f3.params.toList args.toList ds p := hA0
  have hAll := hA
  have hltp : ∀ x ∈ p, x.block < W.heap.size := fun x hx => hW'.lt x (List.mem_append_left _ hx)
  rw [Try.params3] at hA hval
  obtain ⟨v0, v1, d0, d1, p0, p1, rfl, rfl, rfl, h0, h1⟩ := trodAll_two hA
  obtain ⟨rfl, rfl⟩ := trodVars_none hV
  obtain ⟨ps, hps, hpl⟩ := open_formula Try.underlying22 (hval 0 22 v0 rfl rfl) h0
  obtain ⟨As, qs, rfl⟩ := Sl.form hps
  obtain ⟨n, rfl, _⟩ := open_int (hval 1 3 v1 rfl rfl) h1
  refine (buildReels_walk ps As qs n W hpl.1 hps).mono fun e W2 ⟨he, hb⟩ => ?_
  subst he
  exact ⟨_, rfl, post_of_below (pv := []) hW' (fun _ _ _ => trodAll_mk1 (shut_bool Try.underlying4 _)) (fun sp hsp => trodAll_stays laid_BuildReels hb sp _ _ _ _ par_BuildReels hAll hltp (fun x hx => hsp x (List.mem_append_left _ hx))) (fun _ _ => rfl) rfl hb
    (ok_one (by kernel_rfl) rfl (okWide_bool_mk Try.underlying4 _))⟩
theorem buildReels_holds : Rows.BuildReelsSaid :=
  OpenClaim.holds_of_wide 3 Try.f3 rfl rfl rfl rfl rfl rfl rfl ⟨rfl, rfl, rfl, rfl, rfl⟩ rfl rfl rfl rfl rfl (by kernel_rfl) Try.func3 (by kernel_rfl)
    (of_decide_eq_true (by kernel_rfl)) (by unfold Func.isWrapper; first | (rw [if_pos (by decide +kernel)]; kernel_rfl) | (rw [if_neg (by decide +kernel)]; exact ⟨rfl, rfl⟩))
    (fun os started H enc _ => buildReels_lifted os started H enc)
#print axioms buildReels_holds

end Go.Proofs.Ytehadoecnmfeoaa

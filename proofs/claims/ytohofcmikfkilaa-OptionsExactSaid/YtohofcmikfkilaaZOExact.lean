/- Counts of a formula and its opposite, of formulas joined, what is listed and what a diagram says fit together: for every model and formulas; no condition. -/
import Derived.Test.YtohofcmikfkilaaRows
import Derived.Test.YtohofcmikfkilaaGF
import Derived.Test.YtohofcmikfkilaaGG
import Derived.Test.YtohofcmikfkilaaGH
import Derived.Test.YtohofcmikfkilaaGJ
import Derived.Test.YtohofcmikfkilaaGM
import Derived.Test.YtohofcmikfkilaaGN
import Derived.Deep.RegionHeld3
import Derived.Deep.DrawnRows
namespace Go.Proofs.Ytohofcmikfkilaa
open Go.Joins Go.ChangeShapes Go.WideShapes Go.ChangeAt Go.RowKit Go.Deep
set_option linter.unusedVariables false
set_option linter.unusedSimpArgs false
theorem optionsExact_walk (m : Mo) (f g : List Int) (ov rv fv gv : Value) (w : World) (hs : SizedM m) (h : MoAt w w.heap.size ov rv m) (hif : Ints w w.heap.size fv f) (hfl : f.length ≤ maxLen) (hig : Ints w w.heap.size gv g) (hgl : g.length ≤ maxLen) :
    Calls Try.prog 18 #[.agg #[ov, rv], fv, gv] w fun e w' => e = .returned (.bool true) ∧ Below w.heap.size w w' := by
  cases hlg : largeB m with
  | true => exact optionsExact_large m f g ov rv fv gv w hs h hif hfl hig hgl hlg
  | false =>
    by_cases h1 : f.length ≤ 40
    · by_cases h2 : g.length ≤ 40
      · by_cases z1 : m.errF [f] = 0
        · by_cases z2 : m.errF [g] = 0
          · exact optionsExact_ok m f g ov rv fv gv w hs h hif hfl hig hgl hlg h1 h2 z1 z2
          · exact optionsExact_errG m f g ov rv fv gv w hs h hif hfl hig hgl hlg h1 h2 z1 z2
        · exact optionsExact_errF m f g ov rv fv gv w hs h hif hfl hig hgl hlg h1 h2 z1
      · exact optionsExact_longG m f g ov rv fv gv w hs h hif hfl hig hgl hlg h1 (by omega)
    · exact optionsExact_longF m f g ov rv fv gv w hs h hif hfl hig hgl hlg (by omega)

theorem own_OptionsExact : ownKnob Try.prog.godebug = none := by kernel_rfl
theorem laid_OptionsExact : laidOutB Try.prog = true := by kernel_rfl
theorem par_OptionsExact : ∀ t ∈ Try.f18.params.toList, Try.prog.readableRec t = true ∧ t < Try.prog.types.size := by
  rw [Try.params18]
  intro t ht
  simp only [List.mem_cons, List.not_mem_nil, or_false] at ht
  rcases ht with rfl | rfl | rfl <;> exact ⟨by kernel_rfl, of_decide_eq_true (by kernel_rfl)⟩
set_option maxRecDepth 100000 in
theorem optionsExact_lifted (os : Os) (started : os.Started) (H : Type) (enc : TypeId × Value → H) :
    ReturnsInHanded {} Try.checked os 18 .any (Rows.optionsExactSpec.pre6 enc Try.prog Try.f18 Rows.optionsExactRow.domain false) (Rows.optionsExactSpec.post enc Try.prog Try.f18 false true false false) := by
  refine returnsInHanded_of_change (C := Try.checked) own_OptionsExact started (by kernel_rfl) Try.func18
    (ChangeSpec.witness6 (enc := enc) (C := Try.checked) false ⟨#[], #[.agg #[.slice none 0 0, .slice none 0 0], .slice none 0 0, .slice none 0 0], []⟩ 8 (by kernel_rfl) (by kernel_rfl) (by kernel_rfl) (by kernel_rfl)) ?_
  intro W base args ds gs before hval0 hW hcnd _
  have hval : ∀ (j : Nat) t v, Try.f18.params[j]? = some t → args[j]? = some v → Value.okWide Try.prog W .any base t v := hval0
  have hW' := hW
  obtain ⟨p, q, hA0, hV, rfl, hfz, hnd⟩ := hW
  have hA : DataW.TrodAll enc Try.prog W 0 (fun _ => true) true Try.f18.params.toList args.toList ds p := hA0
  have hAll := hA
  have hltp : ∀ x ∈ p, x.block < W.heap.size := fun x hx => hW'.lt x (List.mem_append_left _ hx)
  rw [Try.params18] at hA hval
  obtain ⟨v0, v1, v2, d0, d1, d2, p0, p1, p2, rfl, rfl, rfl, h0, h1, h2⟩ := trodAll_three hA
  obtain ⟨rfl, rfl⟩ := trodVars_none hV
  obtain ⟨ov, rv, m, rfl, hmo, hsz⟩ := open_model (hval 0 25 v0 rfl rfl) h0
  obtain ⟨f, hf, hfl, _⟩ := open_formula Try.underlying35 (hval 1 35 v1 rfl rfl) h1
  obtain ⟨g, hg, hgl, _⟩ := open_formula Try.underlying35 (hval 2 35 v2 rfl rfl) h2
  refine (optionsExact_walk m f g ov rv v1 v2 W hsz hmo hf hfl hg hgl).mono fun e W2 ⟨he, hb⟩ => ?_
  subst he
  exact ⟨_, rfl, post_of_below (pv := []) hW' (fun _ _ _ => trodAll_mk1 (shut_bool Try.underlying4 _)) (fun sp hsp => trodAll_stays laid_OptionsExact hb sp _ _ _ _ par_OptionsExact hAll hltp (fun x hx => hsp x (List.mem_append_left _ hx))) (fun _ _ => rfl) rfl hb
    (ok_one (by kernel_rfl) rfl (okWide_bool_mk Try.underlying4 _))⟩
theorem optionsExact_holds : Rows.OptionsExactSaid :=
  OpenClaim.holds_of_wide 18 Try.f18 rfl rfl rfl rfl rfl rfl rfl ⟨rfl, rfl, rfl, rfl, rfl⟩ rfl rfl rfl rfl rfl (by kernel_rfl) Try.func18 (by kernel_rfl)
    (of_decide_eq_true (by kernel_rfl)) (by unfold Func.isWrapper; first | (rw [if_pos (by decide +kernel)]; kernel_rfl) | (rw [if_neg (by decide +kernel)]; exact ⟨rfl, rfl⟩))
    (fun os started H enc _ => optionsExact_lifted os started H enc)
#print axioms optionsExact_holds

end Go.Proofs.Ytohofcmikfkilaa

/- Drop returns the voltage and the errors that the document specifies: for every gauge, current and length; no condition. -/
import Derived.Test.YtejjjijaojkohaaRows
import Derived.Test.YtejjjijaojkohaaWO
namespace Go.Proofs.Ytejjjijaojkohaa
open Go.Joins Go.ChangeShapes Go.WideShapes Go.ChangeAt Go.RowKit Go.Deep
set_option linter.unusedVariables false

theorem wiresDrops_walk (g : Ga) (amps len : Int) (w : World) :
    Calls Try.prog 3 #[.agg #[.int .i64 g.area, .int .i64 g.ohm, .int .i64 g.heat, .int .i64 g.cool, .int .i64 g.limit], .int .i64 amps, .int .i64 len] w fun e w' => e = .returned (.bool true) ∧ Below w.heap.size w w' := by
  go_enter Try.func3, Try.ntmps3
  go_wp2_with (first
    | (go_at_call 15; refine (Drop_any g _ _ _).mono ?_; rintro e w1 ⟨rfl, hB1⟩
       have hb1 := box_at hB1
       have q10 := cellOf hb1 0; have q11 := cellOf hb1 1; have q12 := cellOf hb1 2; have q13 := cellOf hb1 3; have q14 := cellOf hb1 4; have q1l := box_lt hb1; have q1h := hide hb1; clear hb1)
    | (go_at_call 16; refine (rDrop_any g _ _ _).mono ?_; rintro e w2 ⟨rfl, hB2⟩)
    | (go_at_call 17; refine (works_any _).mono ?_; rintro e w3 ⟨rfl, hB3⟩))
  go_ret
  exact ⟨rfl, (by repeat (first | exact Below.refl _ _ | assumption | refine Below.drew ?_ | refine Below.drewN ?_ _ | refine Below.allocT ?_ (Nat.le_refl _) _ | refine Below.setCell ?_ (by simp <;> omega) _ | refine Below.to ?_ (by assumption) (Nat.le_refl _)))⟩

theorem own_WiresDrops : ownKnob Try.prog.godebug = none := by kernel_rfl
theorem laid_WiresDrops : laidOutB Try.prog = true := by kernel_rfl
theorem par_WiresDrops : ∀ t ∈ Try.f3.params.toList, Try.prog.readableRec t = true ∧ t < Try.prog.types.size := by
  rw [Try.params3]
  intro t ht
  simp only [List.mem_cons, List.not_mem_nil, or_false] at ht
  rcases ht with rfl | rfl | rfl <;> exact ⟨by kernel_rfl, of_decide_eq_true (by kernel_rfl)⟩
set_option maxRecDepth 100000 in
theorem wiresDrops_lifted (os : Os) (started : os.Started) (H : Type) (enc : TypeId × Value → H) :
    ReturnsInHanded {} Try.checked os 3 .any (Rows.wiresDropsSpec.pre6 enc Try.prog Try.f3 Rows.wiresDropsRow.domain false) (Rows.wiresDropsSpec.post enc Try.prog Try.f3 false true false false) := by
  refine returnsInHanded_of_change (C := Try.checked) own_WiresDrops started (by kernel_rfl) Try.func3
    (ChangeSpec.witness6 (enc := enc) (C := Try.checked) false ⟨#[], #[.agg #[.int .i64 0, .int .i64 0, .int .i64 0, .int .i64 0, .int .i64 0], .int .i64 0, .int .i64 0], []⟩ 8 (by kernel_rfl) (by kernel_rfl) (by kernel_rfl) (by kernel_rfl)) ?_
  intro W base args ds gs before hval0 hW hcnd _
  have hval : ∀ (j : Nat) t v, Try.f3.params[j]? = some t → args[j]? = some v → Value.okWide Try.prog W .any base t v := hval0
  have hW' := hW
  obtain ⟨p, q, hA0, hV, rfl, hfz, hnd⟩ := hW
  have hA : DataW.TrodAll enc Try.prog W 0 (fun _ => true) true Try.f3.params.toList args.toList ds p := hA0
  have hAll := hA
  have hltp : ∀ x ∈ p, x.block < W.heap.size := fun x hx => hW'.lt x (List.mem_append_left _ hx)
  rw [Try.params3] at hA hval
  obtain ⟨v0, v1, v2, d0, d1, d2, p0, p1, p2, rfl, rfl, rfl, h0, h1, h2⟩ := trodAll_three hA
  obtain ⟨rfl, rfl⟩ := trodVars_none hV
  obtain ⟨g, rfl⟩ := open_gauge (hval 0 23 v0 rfl rfl) h0
  obtain ⟨a, rfl, _⟩ := open_i64 (hval 1 3 v1 rfl rfl) h1
  obtain ⟨l, rfl, _⟩ := open_i64 (hval 2 3 v2 rfl rfl) h2
  refine (wiresDrops_walk g a l W).mono fun e W2 ⟨he, hb⟩ => ?_
  subst he
  exact ⟨_, rfl, post_of_below (pv := []) hW' (fun _ _ _ => trodAll_mk1 (shut_bool Try.underlying4 _)) (fun sp hsp => trodAll_stays laid_WiresDrops hb sp _ _ _ _ par_WiresDrops hAll hltp (fun x hx => hsp x (List.mem_append_left _ hx))) (fun _ _ => rfl) rfl hb
    (ok_one (by kernel_rfl) rfl (okWide_bool_mk Try.underlying4 _))⟩
theorem wiresDrops_holds : Rows.WiresDropsSaid :=
  OpenClaim.holds_of_wide 3 Try.f3 rfl rfl rfl rfl rfl rfl rfl ⟨rfl, rfl, rfl, rfl, rfl⟩ rfl rfl rfl rfl rfl (by kernel_rfl) Try.func3 (by kernel_rfl)
    (of_decide_eq_true (by kernel_rfl)) (by unfold Func.isWrapper; first | (rw [if_pos (by decide +kernel)]; kernel_rfl) | (rw [if_neg (by decide +kernel)]; exact ⟨rfl, rfl⟩))
    (fun os started H enc _ => wiresDrops_lifted os started H enc)
#print axioms wiresDrops_holds

end Go.Proofs.Ytejjjijaojkohaa

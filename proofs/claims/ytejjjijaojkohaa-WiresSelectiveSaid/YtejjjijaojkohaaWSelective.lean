/- Selective returns the current and the errors that the document specifies, and selectivity carries over from fuse to fuse: for all fuses; no condition. -/
import Derived.Test.YtejjjijaojkohaaRows
import Derived.Test.YtejjjijaojkohaaW12
import Derived.Test.YtejjjijaojkohaaWO
namespace Go.Proofs.Ytejjjijaojkohaa
open Go.Joins Go.ChangeShapes Go.WideShapes Go.ChangeAt Go.RowKit Go.Deep
set_option linter.unusedVariables false

theorem three_fuses {w0 w1 : World} {b1 b2 b3 : Nat} {lo mi up : Fu} (h1 : FuseAt w0 b1 lo) (h2 : FuseAt w0 b2 mi) (h3 : FuseAt w0 b3 up) (hB : Below w0.heap.size w0 w1) :
    w1.cell? ⟨b1, 0, none⟩ = some (.int .i64 lo.rating) ∧ w1.cell? ⟨b1, 1, none⟩ = some (.int .i64 lo.melt) ∧ w1.cell? ⟨b2, 0, none⟩ = some (.int .i64 mi.rating) ∧ w1.cell? ⟨b2, 1, none⟩ = some (.int .i64 mi.melt) ∧
      w1.cell? ⟨b3, 0, none⟩ = some (.int .i64 up.rating) ∧ w1.cell? ⟨b3, 1, none⟩ = some (.int .i64 up.melt) :=
  ⟨cellOf (box_to h1 hB) 0, cellOf (box_to h1 hB) 1, cellOf (box_to h2 hB) 0, cellOf (box_to h2 hB) 1, cellOf (box_to h3 hB) 0, cellOf (box_to h3 hB) 1⟩

theorem sel_cases (lo mi up : Fu) : selErr lo mi ≠ 0 ∨ selErr mi up ≠ 0 ∨ 0 ≤ selVal lo mi ∨ 0 ≤ selVal mi up ∨ (selErr lo up = 0 ∧ selVal lo up = -1) := by
  unfold selErr selVal
  cases h1 : lo.ok <;> cases h2 : mi.ok <;> cases h3 : up.ok <;> simp
  rcases Int.lt_or_le (leastI (selB lo mi)) 0 with a | a
  · rcases Int.lt_or_le (leastI (selB mi up)) 0 with b | b
    · exact .inr (.inr (sel_trans lo mi up (Fu.ok_iff.1 h1) (Fu.ok_iff.1 h2) (Fu.ok_iff.1 h3) a b))
    · exact .inr (.inl b)
  · exact .inl a

theorem wiresSelective_walk (lo mi up : Fu) (w : World) :
    Calls Try.prog 5 #[.agg #[.int .i64 lo.rating, .int .i64 lo.melt], .agg #[.int .i64 mi.rating, .int .i64 mi.melt], .agg #[.int .i64 up.rating, .int .i64 up.melt]] w fun e w' => e = .returned (.bool true) ∧ Below w.heap.size w w' := by
  have hcs := sel_cases lo mi up
  obtain ⟨e1, he1⟩ : ∃ x, selErr lo mi = x := ⟨_, rfl⟩
  obtain ⟨a1, ha1⟩ : ∃ x, selVal lo mi = x := ⟨_, rfl⟩
  obtain ⟨e2, he2⟩ : ∃ x, selErr mi up = x := ⟨_, rfl⟩
  obtain ⟨a2, ha2⟩ : ∃ x, selVal mi up = x := ⟨_, rfl⟩
  obtain ⟨e3, he3⟩ : ∃ x, selErr lo up = x := ⟨_, rfl⟩
  obtain ⟨a3, ha3⟩ : ∃ x, selVal lo up = x := ⟨_, rfl⟩
  rw [he1, ha1, he2, ha2, he3, ha3] at hcs
  have H1 := hide he1
  have H2 := hide ha1
  have H3 := hide he2
  have H4 := hide ha2
  have H5 := hide he3
  have H6 := hide ha3
  clear he1 ha1 he2 ha2 he3 ha3
  have key : (e1 != 0) = true ∨ ((e1 != 0) = false ∧ ((e2 != 0) = true ∨ ((e2 != 0) = false ∧ (0 ≤ a1 ∨ (a1 < 0 ∧ (0 ≤ a2 ∨ (a2 < 0 ∧ (e3 == 0) = true ∧ (a3 == -1) = true))))))) := by
    by_cases q1 : e1 = 0
    · by_cases q2 : e2 = 0
      · simp [q1, q2]
        omega
      · simp [q1, q2]
    · simp [q1]
  clear hcs
  have s1 : (a1 != a1) = false := by simp
  have s2 : (e1 != e1) = false := by simp
  go_enter Try.func5, Try.ntmps5
  go_wp2_with fail
  obtain ⟨w0, hw0⟩ : ∃ w0 : World, ((w.alloc (.cells #[.int .i64 lo.rating, .int .i64 lo.melt] 30)).alloc (.cells #[.int .i64 mi.rating, .int .i64 mi.melt] 30)).alloc (.cells #[.int .i64 up.rating, .int .i64 up.melt] 30) = w0 := ⟨_, rfl⟩
  have hb1 : FuseAt w0 w.heap.size lo := by
    unfold FuseAt; rw [← hw0, heap_old _ _ _ (by simp <;> omega), heap_old _ _ _ (by simp), heap_new _ _ _ rfl]
  have hb2 : FuseAt w0 (w.heap.size + 1) mi := by
    unfold FuseAt; rw [← hw0, heap_old _ _ _ (by simp), heap_new _ _ _ (by simp)]
  have hb3 : FuseAt w0 (w.heap.size + 1 + 1) up := by
    unfold FuseAt; rw [← hw0, heap_new _ _ _ (by simp)]
  have hB0 : Below w.heap.size w w0 := by rw [← hw0]; exact (by repeat (first | exact Below.refl _ _ | assumption | refine Below.drew ?_ | refine Below.drewN ?_ _ | refine Below.allocT ?_ (Nat.le_refl _) _ | refine Below.setCell ?_ (by simp <;> omega) _ | refine Below.to ?_ (by assumption) (Nat.le_refl _)))
  have HB1 := hide hb1
  have HB2 := hide hb2
  have HB3 := hide hb3
  rw [hw0]
  clear hb1 hb2 hb3 hw0
  refine (Selective_any lo mi _).mono ?_
  rw [H1.out, H2.out]
  rintro e w1 ⟨rfl, hB1⟩
  obtain ⟨d0, d1, d2, d3, d4, d5⟩ := three_fuses HB1.out HB2.out HB3.out hB1
  go_wp2_with fail
  refine (rSelective_any lo mi _).mono ?_
  rw [H1.out, H2.out]
  rintro e w2 ⟨rfl, hB2⟩
  have hC2 : Below w0.heap.size w0 w2 := Below.to hB1 hB2 (Nat.le_refl _)
  clear d0 d1 d2 d3 d4 d5
  obtain ⟨d0, d1, d2, d3, d4, d5⟩ := three_fuses HB1.out HB2.out HB3.out hC2
  go_wp2_with fail
  refine (Selective_any mi up _).mono ?_
  rw [H3.out, H4.out]
  rintro e w3 ⟨rfl, hB3⟩
  have hC3 : Below w0.heap.size w0 w3 := Below.to hC2 hB3 (Nat.le_refl _)
  clear d0 d1 d2 d3 d4 d5
  obtain ⟨d0, d1, d2, d3, d4, d5⟩ := three_fuses HB1.out HB2.out HB3.out hC3
  go_wp2_with fail
  refine (Selective_any lo up _).mono ?_
  rw [H5.out, H6.out]
  rintro e w4 ⟨rfl, hB4⟩
  have hC4 : Below w0.heap.size w0 w4 := Below.to hC3 hB4 (Nat.le_refl _)
  clear d0 d1 d2 d3 d4 d5
  rcases key with k1 | ⟨k1, k2 | ⟨k2, k3 | ⟨k3, k4 | ⟨k4, k5, k6⟩⟩⟩⟩
  all_goals
    go_wp2_with (go_at_call 17; refine (works_any _).mono ?_; rintro e w5 ⟨rfl, hB5⟩)
    go_ret
    exact ⟨rfl, Below.to (Below.to hB0 hC4 (Nat.le_refl _)) hB5 (Nat.le_refl _)⟩

theorem own_WiresSelective : ownKnob Try.prog.godebug = none := by kernel_rfl
theorem laid_WiresSelective : laidOutB Try.prog = true := by kernel_rfl
theorem par_WiresSelective : ∀ t ∈ Try.f5.params.toList, Try.prog.readableRec t = true ∧ t < Try.prog.types.size := by
  rw [Try.params5]
  intro t ht
  simp only [List.mem_cons, List.not_mem_nil, or_false] at ht
  rcases ht with rfl | rfl | rfl <;> exact ⟨by kernel_rfl, of_decide_eq_true (by kernel_rfl)⟩
set_option maxRecDepth 100000 in
theorem wiresSelective_lifted (os : Os) (started : os.Started) (H : Type) (enc : TypeId × Value → H) :
    ReturnsInHanded {} Try.checked os 5 .any (Rows.wiresSelectiveSpec.pre6 enc Try.prog Try.f5 Rows.wiresSelectiveRow.domain false) (Rows.wiresSelectiveSpec.post enc Try.prog Try.f5 false true false false) := by
  refine returnsInHanded_of_change (C := Try.checked) own_WiresSelective started (by kernel_rfl) Try.func5
    (ChangeSpec.witness6 (enc := enc) (C := Try.checked) false ⟨#[], #[.agg #[.int .i64 0, .int .i64 0], .agg #[.int .i64 0, .int .i64 0], .agg #[.int .i64 0, .int .i64 0]], []⟩ 8 (by kernel_rfl) (by kernel_rfl) (by kernel_rfl) (by kernel_rfl)) ?_
  intro W base args ds gs before hval0 hW hcnd _
  have hval : ∀ (j : Nat) t v, Try.f5.params[j]? = some t → args[j]? = some v → Value.okWide Try.prog W .any base t v := hval0
  have hW' := hW
  obtain ⟨p, q, hA0, hV, rfl, hfz, hnd⟩ := hW
  have hA : DataW.TrodAll enc Try.prog W 0 (fun _ => true) true Try.f5.params.toList args.toList ds p := hA0
  have hAll := hA
  have hltp : ∀ x ∈ p, x.block < W.heap.size := fun x hx => hW'.lt x (List.mem_append_left _ hx)
  rw [Try.params5] at hA hval
  obtain ⟨v0, v1, v2, d0, d1, d2, p0, p1, p2, rfl, rfl, rfl, h0, h1, h2⟩ := trodAll_three hA
  obtain ⟨rfl, rfl⟩ := trodVars_none hV
  obtain ⟨f0, rfl⟩ := open_fuse (hval 0 30 v0 rfl rfl) h0
  obtain ⟨f1, rfl⟩ := open_fuse (hval 1 30 v1 rfl rfl) h1
  obtain ⟨f2, rfl⟩ := open_fuse (hval 2 30 v2 rfl rfl) h2
  refine (wiresSelective_walk f0 f1 f2 W).mono fun e W2 ⟨he, hb⟩ => ?_
  subst he
  exact ⟨_, rfl, post_of_below (pv := []) hW' (fun _ _ _ => trodAll_mk1 (shut_bool Try.underlying4 _)) (fun sp hsp => trodAll_stays laid_WiresSelective hb sp _ _ _ _ par_WiresSelective hAll hltp (fun x hx => hsp x (List.mem_append_left _ hx))) (fun _ _ => rfl) rfl hb
    (ok_one (by kernel_rfl) rfl (okWide_bool_mk Try.underlying4 _))⟩
theorem wiresSelective_holds : Rows.WiresSelectiveSaid :=
  OpenClaim.holds_of_wide 5 Try.f5 rfl rfl rfl rfl rfl rfl rfl ⟨rfl, rfl, rfl, rfl, rfl⟩ rfl rfl rfl rfl rfl (by kernel_rfl) Try.func5 (by kernel_rfl)
    (of_decide_eq_true (by kernel_rfl)) (by unfold Func.isWrapper; first | (rw [if_pos (by decide +kernel)]; kernel_rfl) | (rw [if_neg (by decide +kernel)]; exact ⟨rfl, rfl⟩))
    (fun os started H enc _ => wiresSelective_lifted os started H enc)
#print axioms wiresSelective_holds

end Go.Proofs.Ytejjjijaojkohaa

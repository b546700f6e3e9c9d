/- Follow answers as the elder program does: for every model, diagram and variant; no condition. -/
import Derived.Test.YtohofcmikfkilaaRows
import Derived.Test.YtohofcmikfkilaaF20
import Derived.Test.YtohofcmikfkilaaF29
import Derived.Deep.RegionHeld3
import Derived.Deep.DrawnRows
namespace Go.Proofs.Ytohofcmikfkilaa
open Go.Joins Go.ChangeShapes Go.WideShapes Go.ChangeAt Go.RowKit Go.Deep
set_option linter.unusedVariables false
set_option linter.unusedSimpArgs false
set_option maxRecDepth 100000 in
set_option maxHeartbeats 4000000 in
theorem optionsFollows_walk (m : Mo) (ks : List Kt) (root : Int) (vs : List Bool) (ov rv kv vv : Value) (w : World) (hs : SizedM m) (hkl : ks.length ≤ maxLen) (hvl : vs.length ≤ maxLen) (h : MoAt w w.heap.size ov rv m) (hk : Kts w w.heap.size kv ks) (hv : Bols w w.heap.size vv vs) :
    Calls Try.prog 7 #[.agg #[ov, rv], .agg #[kv, .int .i64 root], vv] w fun e w' => e = .returned (.bool true) ∧ Below w.heap.size w w' := by
  obtain ⟨A, cap, hov⟩ := Sl.form h.o
  obtain ⟨Ar, capr, hrv⟩ := h.r.form
  obtain ⟨Ak, capk, hkv⟩ := Sl.form hk
  obtain ⟨Av, capv, hvv⟩ := Sl.form hv
  unfold maxLen at hkl
  have H := hide h
  have HKS := hide hk
  have HV := hide hv
  have HS := hide hs
  subst hov hrv hkv hvv
  obtain ⟨z, hz⟩ : ∃ z, folE m ks root vs = z := ⟨_, rfl⟩
  obtain ⟨y, hy⟩ : ∃ y, folB m ks root vs = y := ⟨_, rfl⟩
  have HZ := hide hz
  have HY := hide hy
  clear h hk hv hs hz hy
  by_cases h3 : 3000 < ks.length
  · have e1 : decide ((3000 : Int) < (ks.length : Int)) = true := by simp; omega
    have e2 : (3000 : Int) < (ks.length : Int) := by omega
    clear h3
    go_enter Try.func7, Try.ntmps7
    go_upto_region 2 with (fail)
    have hB0 : Below w.heap.size w ((w.alloc (.cells #[.slice A m.opts.length cap, .slice Ar m.rules.length capr] 25)).alloc (.cells #[.slice Ak ks.length capk, .int .i64 root] 46)) := (by repeat (first | exact Below.refl _ _ | assumption | refine Below.drew ?_ | refine Below.drewN ?_ _ | refine Below.allocT ?_ (Nat.le_refl _) _ | refine Below.setCell ?_ (by simp <;> omega) _ | refine Below.to ?_ (by assumption) (Nat.le_refl _)))
    have HB0 := hide hB0
    clear hB0
    go_wp2_with (go_at_call 20; refine (works_any _).mono ?_; rintro e w5 ⟨rfl, hB5⟩)
    go_ret
    exact ⟨rfl, Below.to HB0.out hB5 (Nat.le_refl _)⟩
  · have e1 : decide ((3000 : Int) < (ks.length : Int)) = false := by simp; omega
    have e2 : ¬ (3000 : Int) < (ks.length : Int) := by omega
    have h3k : ks.length ≤ 3000 := by omega
    clear h3
    go_enter Try.func7, Try.ntmps7
    go_upto_region 1 with (fail)
    obtain ⟨w0, hw0⟩ : ∃ w0 : World, (w.alloc (.cells #[.slice A m.opts.length cap, .slice Ar m.rules.length capr] 25)).alloc (.cells #[.slice Ak ks.length capk, .int .i64 root] 46) = w0 := ⟨_, rfl⟩
    have hB0 : Below w.heap.size w w0 := by rw [← hw0]; exact Below.allocT (Below.allocT (Below.refl _ _) (Nat.le_refl _) _) (Nat.le_refl _) _
    have hb0 : w0.heap[w.heap.size]? = some (.cells #[.slice A m.opts.length cap, .slice Ar m.rules.length capr] 25 (0, 0)) := by rw [← hw0, heap_old _ _ _ (by simp)]; exact heap_new _ _ _ rfl
    have hb1 : w0.heap[w.heap.size + 1]? = some (.cells #[.slice Ak ks.length capk, .int .i64 root] 46 (0, 0)) := by rw [← hw0]; exact heap_new _ _ _ (by simp)
    rw [hw0]
    clear hw0
    have HX := hide hb0
    have HY1 := hide hb1
    have HB0 := hide hB0
    have c0 := cellOf hb0 0
    have c1 := cellOf hb0 1
    have d0 := cellOf hb1 0
    have d1 := cellOf hb1 1
    have hlt := box_lt hb1
    clear hb0 hb1 hB0
    go_upto_region 4 with (go_at_call 32; refine (Follow_any m ks root vs _ _ _ _ _ HS.out h3k hvl (H.out.up HB0.out) (HKS.out.up HB0.out) (Sl.up HV.out HB0.out)).mono ?_; rw [HZ.out, HY.out]; rintro e w1 ⟨rfl, hB1⟩; have HB1 : Hid (Below w.heap.size w w1) := Below.to HB0.out hB1 (Nat.le_refl _); have x0 := cellOf (box_to HX.out hB1) 0; have x1 := cellOf (box_to HX.out hB1) 1; have y0 := cellOf (box_to HY1.out hB1) 0; have y1 := cellOf (box_to HY1.out hB1) 1; clear hB1 c0 c1 d0 d1)
    go_upto_region 5 with (go_at_call 33; refine (rFollow_any m ks root vs _ _ _ _ _ HS.out h3k hvl (H.out.up HB1.out) (HKS.out.up HB1.out) (Sl.up HV.out HB1.out)).mono ?_; rw [HZ.out, HY.out]; rintro e w2 ⟨rfl, hB2⟩; have HB2 : Hid (Below w.heap.size w w2) := Below.to HB1.out hB2 (Nat.le_refl _); clear hB2 x0 x1 y0 y1)
    go_wp2_with (go_at_call 20; refine (works_any _).mono ?_; rintro e w5 ⟨rfl, hB5⟩)
    go_ret
    exact ⟨rfl, Below.to HB2.out hB5 (Nat.le_refl _)⟩

theorem own_OptionsFollows : ownKnob Try.prog.godebug = none := by kernel_rfl
theorem laid_OptionsFollows : laidOutB Try.prog = true := by kernel_rfl
theorem par_OptionsFollows : ∀ t ∈ Try.f7.params.toList, Try.prog.readableRec t = true ∧ t < Try.prog.types.size := by
  rw [Try.params7]
  intro t ht
  simp only [List.mem_cons, List.not_mem_nil, or_false] at ht
  rcases ht with rfl | rfl | rfl <;> exact ⟨by kernel_rfl, of_decide_eq_true (by kernel_rfl)⟩
set_option maxRecDepth 100000 in
theorem optionsFollows_lifted (os : Os) (started : os.Started) (H : Type) (enc : TypeId × Value → H) :
    ReturnsInHanded {} Try.checked os 7 .any (Rows.optionsFollowsSpec.pre6 enc Try.prog Try.f7 Rows.optionsFollowsRow.domain false) (Rows.optionsFollowsSpec.post enc Try.prog Try.f7 false true false false) := by
  refine returnsInHanded_of_change (C := Try.checked) own_OptionsFollows started (by kernel_rfl) Try.func7
    (ChangeSpec.witness6 (enc := enc) (C := Try.checked) false ⟨#[], #[.agg #[.slice none 0 0, .slice none 0 0], .agg #[.slice none 0 0, .int .i64 0], .slice none 0 0], []⟩ 8 (by kernel_rfl) (by kernel_rfl) (by kernel_rfl) (by kernel_rfl)) ?_
  intro W base args ds gs before hval0 hW hcnd _
  have hval : ∀ (j : Nat) t v, Try.f7.params[j]? = some t → args[j]? = some v → Value.okWide Try.prog W .any base t v := hval0
  have hW' := hW
  obtain ⟨p, q, hA0, hV, rfl, hfz, hnd⟩ := hW
  have hA : DataW.TrodAll enc Try.prog W 0 (fun _ => true) true Try.f7.params.toList args.toList ds p := hA0
  have hAll := hA
  have hltp : ∀ x ∈ p, x.block < W.heap.size := fun x hx => hW'.lt x (List.mem_append_left _ hx)
  rw [Try.params7] at hA hval
  obtain ⟨v0, v1, v2, d0, d1, d2, p0, p1, p2, rfl, rfl, rfl, h0, h1, h2⟩ := trodAll_three hA
  obtain ⟨rfl, rfl⟩ := trodVars_none hV
  obtain ⟨ov, rv, m, rfl, hmo, hsz⟩ := open_model (hval 0 25 v0 rfl rfl) h0
  obtain ⟨kv, ks, n, rfl, hks, hkl⟩ := open_walk (hval 1 46 v1 rfl rfl) h1
  obtain ⟨vs, hvs, hvl⟩ := open_bools (hval 2 29 v2 rfl rfl) h2
  refine (optionsFollows_walk m ks n vs ov rv kv v2 W hsz hkl hvl hmo hks hvs).mono fun e W2 ⟨he, hb⟩ => ?_
  subst he
  exact ⟨_, rfl, post_of_below (pv := []) hW' (fun _ _ _ => trodAll_mk1 (shut_bool Try.underlying4 _)) (fun sp hsp => trodAll_stays laid_OptionsFollows hb sp _ _ _ _ par_OptionsFollows hAll hltp (fun x hx => hsp x (List.mem_append_left _ hx))) (fun _ _ => rfl) rfl hb
    (ok_one (by kernel_rfl) rfl (okWide_bool_mk Try.underlying4 _))⟩
theorem optionsFollows_holds : Rows.OptionsFollowsSaid :=
  OpenClaim.holds_of_wide 7 Try.f7 rfl rfl rfl rfl rfl rfl rfl ⟨rfl, rfl, rfl, rfl, rfl⟩ rfl rfl rfl rfl rfl (by kernel_rfl) Try.func7 (by kernel_rfl)
    (of_decide_eq_true (by kernel_rfl)) (by unfold Func.isWrapper; first | (rw [if_pos (by decide +kernel)]; kernel_rfl) | (rw [if_neg (by decide +kernel)]; exact ⟨rfl, rfl⟩))
    (fun os started H enc _ => optionsFollows_lifted os started H enc)
#print axioms optionsFollows_holds

end Go.Proofs.Ytohofcmikfkilaa

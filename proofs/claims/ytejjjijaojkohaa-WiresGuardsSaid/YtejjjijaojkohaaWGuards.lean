/- Guards returns the current and the errors that the document specifies: for every fuse, gauge and ambient; no condition. -/
import Derived.Test.YtejjjijaojkohaaRows
import Derived.Test.YtejjjijaojkohaaW22
import Derived.Test.YtejjjijaojkohaaWO
namespace Go.Proofs.Ytejjjijaojkohaa
open Go.Joins Go.ChangeShapes Go.WideShapes Go.ChangeAt Go.RowKit Go.Deep
set_option linter.unusedVariables false
attribute [local go_sem ↓] Go.wp_at_zero Go.wp_at_succ

theorem Guards_any (f : Fu) (g : Ga) (amb : Int) (w : World) :
    Calls Try.prog 30 #[.agg #[.int .i64 f.rating, .int .i64 f.melt], .agg #[.int .i64 g.area, .int .i64 g.ohm, .int .i64 g.heat, .int .i64 g.cool, .int .i64 g.limit], .int .i64 amb] w fun e w' => e = .returned (.tuple #[.int .i64 (grdVal f g amb), .int .i64 (grdErr f g amb)]) ∧ Below w.heap.size w w' := by
  obtain ⟨x, hx⟩ : ∃ x, fuseErr f = x := ⟨_, rfl⟩
  obtain ⟨y, hy⟩ : ∃ y, gaugeErr g = y := ⟨_, rfl⟩
  obtain ⟨z, hz⟩ : ∃ z : Int, (if x = 0 then y else x) = z := ⟨_, rfl⟩
  have HX := hide hx
  have HY := hide hy
  have HZ := hide hz
  have HE : Hid (z = if f.ok then if g.ok then 0 else 70 else 72) := by
    show _ = _
    rw [← hz, ← hx, ← hy]
    unfold fuseErr gaugeErr
    cases f.ok <;> cases g.ok <;> simp
  clear hx hy hz
  go_enter Try.func30, Try.ntmps30
  go_wp2_with fail
  obtain ⟨w0, hw0⟩ : ∃ w0 : World, (w.alloc (.cells #[.int .i64 f.rating, .int .i64 f.melt] 30)).alloc (.cells #[.int .i64 g.area, .int .i64 g.ohm, .int .i64 g.heat, .int .i64 g.cool, .int .i64 g.limit] 23) = w0 := ⟨_, rfl⟩
  have hfu : FuseAt w0 w.heap.size f := by unfold FuseAt; rw [← hw0, heap_old _ _ _ (by simp <;> omega), heap_new _ _ _ rfl]
  have hga : GaugeAt w0 (w.heap.size + 1) g := by unfold GaugeAt; rw [← hw0, heap_new _ _ _ (by simp)]
  have hB0 : Below w.heap.size w w0 := by rw [← hw0]; exact (by repeat (first | exact Below.refl _ _ | assumption | refine Below.drew ?_ | refine Below.drewN ?_ _ | refine Below.allocT ?_ (Nat.le_refl _) _ | refine Below.setCell ?_ (by simp <;> omega) _ | refine Below.to ?_ (by assumption) (Nat.le_refl _)))
  have HFU := hide hfu
  have HGA := hide hga
  rw [hw0]
  obtain ⟨k0, k1, k2, k3, k4, k5, k6, k7⟩ := fuga hfu hga (Below.refl _ w0)
  clear hfu hga hw0
  go_region_held3 (fun w' => w'.cell? ⟨w.heap.size, 0, none⟩ = some (.int .i64 f.rating) ∧ w'.cell? ⟨w.heap.size, 1, none⟩ = some (.int .i64 f.melt) ∧ w'.cell? ⟨w.heap.size + 1, 0, none⟩ = some (.int .i64 g.area) ∧ w'.cell? ⟨w.heap.size + 1, 1, none⟩ = some (.int .i64 g.ohm) ∧ w'.cell? ⟨w.heap.size + 1, 2, none⟩ = some (.int .i64 g.heat) ∧ w'.cell? ⟨w.heap.size + 1, 3, none⟩ = some (.int .i64 g.cool) ∧ w'.cell? ⟨w.heap.size + 1, 4, none⟩ = some (.int .i64 g.limit) ∧ Below w0.heap.size w0 w')
    (exact fuga HFU.out HGA.out (by repeat (first | exact Below.refl _ _ | assumption | refine Below.drew ?_ | refine Below.drewN ?_ _ | refine Below.allocT ?_ (Nat.le_refl _) _ | refine Below.setCell ?_ (by simp <;> omega) _ | refine Below.to ?_ (by assumption) (Nat.le_refl _))))
    (first | (go_at_call 54; refine (checkFuseE _ _).mono ?_; rw [HX.out]; rintro e w1 ⟨rfl, hB⟩)
           | (go_at_call 48; refine (checkGaugeE _ _).mono ?_; rw [HY.out]; rintro e w1 ⟨rfl, hB⟩)
           | (go_at_call 58; refine (errors2v _ x y z _ (by simp) (by simp) HZ.out).mono ?_; rintro e w1 ⟨rfl, rfl⟩))
  all_goals
    rename_i hHeld
    obtain ⟨j0, j1, j2, j3, j4, j5, j6, j7⟩ := hHeld
    have HJ := hide (Below.to hB0 j7 (Nat.le_refl _))
    clear j7 k0 k1 k2 k3 k4 k5 k6 k7
    by_cases hz0 : z = 0
    · have hok : f.ok = true ∧ g.ok = true := by
        have h3 := HE.out
        cases hl : f.ok <;> cases hu : g.ok <;> simp [hl, hu, hz0] at h3 ⊢
      have hz1 : (z != 0) = false := by simp [hz0]
      have HZ0 := hide hz0
      clear hz0
      have HOK := hide hok
      clear hok
      by_cases hfb : fromB amb 0 1000 = true
      · obtain ⟨b0, b1⟩ := fromB_iff.1 hfb
        have HFB := hide hfb
        go_wp2_with (first
          | (go_at_call 49; refine (within_any _ _ _ _).mono ?_; rw [hfb]; rintro e w' ⟨rfl, rfl⟩)
          | (go_at_call 70; refine (unguarded_any f g amb _ (Fu.ok_iff.1 HOK.out.1) (Ga.ok_iff.1 HOK.out.2) b0 b1).mono ?_; rintro e w3 ⟨rfl, hB3⟩))
        go_ret2
        exact ⟨by simp [grdVal, grdErr, HOK.out.1, HOK.out.2, HFB.out], Below.to HJ.out hB3 (Nat.le_refl _)⟩
      · have hfb' : fromB amb 0 1000 = false := by simpa using hfb
        have HFB := hide hfb'
        go_wp2_with (go_at_call 49; refine (within_any _ _ _ _).mono ?_; rw [hfb']; rintro e w' ⟨rfl, rfl⟩)
        go_ret2
        exact ⟨by simp [grdVal, grdErr, HOK.out.1, HOK.out.2, HFB.out], HJ.out⟩
    · have hz1 : (z != 0) = true := by simp [hz0]
      have hno : (f.ok && g.ok) = false := by
        have h3 := HE.out
        cases hl : f.ok <;> cases hu : g.ok <;> simp [hl, hu] at h3 ⊢
        exact absurd h3 hz0
      have HNO := hide hno
      have HE2 : Hid (grdErr f g amb = z) := by
        show _ = _
        rw [HE.out]
        unfold grdErr
        cases hl : f.ok <;> cases hu : g.ok <;> simp [hl, hu] at hno ⊢
      clear hz0 hno
      go_wp2
      go_ret2
      exact ⟨by rw [HE2.out]; unfold grdVal; rw [HNO.out]; rfl, HJ.out⟩

theorem rGuards_any (f : Fu) (g : Ga) (amb : Int) (w : World) :
    Calls Try.prog 31 #[.agg #[.int .i64 f.rating, .int .i64 f.melt], .agg #[.int .i64 g.area, .int .i64 g.ohm, .int .i64 g.heat, .int .i64 g.cool, .int .i64 g.limit], .int .i64 amb] w fun e w' => e = .returned (.tuple #[.int .i64 (grdVal f g amb), .int .i64 (grdErr f g amb)]) ∧ Below w.heap.size w w' := by
  go_enter Try.func31, Try.ntmps31
  go_wp2_with fail
  obtain ⟨w0, hw0⟩ : ∃ w0 : World, (w.alloc (.cells #[.int .i64 f.rating, .int .i64 f.melt] 30)).alloc (.cells #[.int .i64 g.area, .int .i64 g.ohm, .int .i64 g.heat, .int .i64 g.cool, .int .i64 g.limit] 23) = w0 := ⟨_, rfl⟩
  have hfu : FuseAt w0 w.heap.size f := by unfold FuseAt; rw [← hw0, heap_old _ _ _ (by simp <;> omega), heap_new _ _ _ rfl]
  have hga : GaugeAt w0 (w.heap.size + 1) g := by unfold GaugeAt; rw [← hw0, heap_new _ _ _ (by simp)]
  have hB0 : Below w.heap.size w w0 := by rw [← hw0]; exact (by repeat (first | exact Below.refl _ _ | assumption | refine Below.drew ?_ | refine Below.drewN ?_ _ | refine Below.allocT ?_ (Nat.le_refl _) _ | refine Below.setCell ?_ (by simp <;> omega) _ | refine Below.to ?_ (by assumption) (Nat.le_refl _)))
  have HFU := hide hfu
  have HGA := hide hga
  have HB0 := hide hB0
  rw [hw0]
  clear hfu hga hw0 hB0
  refine (fuse_any f _).mono ?_
  rintro e w1 ⟨rfl, hB1⟩
  have HB1 := hide hB1
  obtain ⟨k0, k1, k2, k3, k4, k5, k6, k7⟩ := fuga HFU.out HGA.out hB1
  clear hB1 k7
  cases hf : f.ok with
  | false =>
    go_wp2_with fail
    go_ret2
    exact ⟨by simp [grdVal, grdErr, hf], Below.to HB0.out HB1.out (Nat.le_refl _)⟩
  | true =>
    have HF := hide hf
    go_wp2_with fail
    refine (gauge_any g _).mono ?_
    rintro e w2 ⟨rfl, hB2⟩
    have HB2 := hide (Below.to HB1.out hB2 (Nat.le_refl _))
    clear hB2 k0 k1 k2 k3 k4 k5 k6
    obtain ⟨k0, k1, k2, k3, k4, k5, k6, k7⟩ := fuga HFU.out HGA.out HB2.out
    clear k7
    cases hg : g.ok with
    | false =>
      go_wp2_with fail
      go_ret2
      exact ⟨by simp [grdVal, grdErr, HF.out, hg], Below.to HB0.out HB2.out (Nat.le_refl _)⟩
    | true =>
      have HG := hide hg
      by_cases hfb : fromB amb 0 1000 = true
      · obtain ⟨b0, b1⟩ := fromB_iff.1 hfb
        have HFB := hide hfb
        go_wp2_with (first
          | (go_at_call 52; refine (from_any _ _ _ _).mono ?_; rw [hfb]; rintro e w' ⟨rfl, rfl⟩)
          | (go_at_call 71; refine (runguarded_any f g amb _ (Fu.ok_iff.1 HF.out) (Ga.ok_iff.1 HG.out) b0 b1).mono ?_; rintro e w3 ⟨rfl, hB3⟩))
        go_ret2
        exact ⟨by simp [grdVal, grdErr, HF.out, HG.out, HFB.out], Below.to (Below.to HB0.out HB2.out (Nat.le_refl _)) hB3 (Nat.le_refl _)⟩
      · have hfb' : fromB amb 0 1000 = false := by simpa using hfb
        have HFB := hide hfb'
        go_wp2_with (go_at_call 52; refine (from_any _ _ _ _).mono ?_; rw [hfb']; rintro e w' ⟨rfl, rfl⟩)
        go_ret2
        exact ⟨by simp [grdVal, grdErr, HF.out, HG.out, HFB.out], Below.to HB0.out HB2.out (Nat.le_refl _)⟩

theorem wiresGuards_walk (f : Fu) (g : Ga) (amb : Int) (w : World) :
    Calls Try.prog 8 #[.agg #[.int .i64 f.rating, .int .i64 f.melt], .agg #[.int .i64 g.area, .int .i64 g.ohm, .int .i64 g.heat, .int .i64 g.cool, .int .i64 g.limit], .int .i64 amb] w fun e w' => e = .returned (.bool true) ∧ Below w.heap.size w w' := by
  obtain ⟨gv, hgv⟩ : ∃ x, grdVal f g amb = x := ⟨_, rfl⟩
  obtain ⟨ge, hge⟩ : ∃ x, grdErr f g amb = x := ⟨_, rfl⟩
  have HGV := hide hgv
  have HGE := hide hge
  clear hgv hge
  go_enter Try.func8, Try.ntmps8
  go_wp2_with fail
  obtain ⟨w0, hw0⟩ : ∃ w0 : World, (w.alloc (.cells #[.int .i64 f.rating, .int .i64 f.melt] 30)).alloc (.cells #[.int .i64 g.area, .int .i64 g.ohm, .int .i64 g.heat, .int .i64 g.cool, .int .i64 g.limit] 23) = w0 := ⟨_, rfl⟩
  have hfu : FuseAt w0 w.heap.size f := by unfold FuseAt; rw [← hw0, heap_old _ _ _ (by simp <;> omega), heap_new _ _ _ rfl]
  have hga : GaugeAt w0 (w.heap.size + 1) g := by unfold GaugeAt; rw [← hw0, heap_new _ _ _ (by simp)]
  have hB0 : Below w.heap.size w w0 := by rw [← hw0]; exact (by repeat (first | exact Below.refl _ _ | assumption | refine Below.drew ?_ | refine Below.drewN ?_ _ | refine Below.allocT ?_ (Nat.le_refl _) _ | refine Below.setCell ?_ (by simp <;> omega) _ | refine Below.to ?_ (by assumption) (Nat.le_refl _)))
  have HFU := hide hfu
  have HGA := hide hga
  have HB0 := hide hB0
  rw [hw0]
  clear hfu hga hw0 hB0
  refine (Guards_any f g amb _).mono ?_
  rw [HGV.out, HGE.out]
  rintro e w1 ⟨rfl, hB1⟩
  have HB1 := hide hB1
  obtain ⟨k0, k1, k2, k3, k4, k5, k6, k7⟩ := fuga HFU.out HGA.out hB1
  clear hB1 k7
  go_wp2_with fail
  refine (rGuards_any f g amb _).mono ?_
  rw [HGV.out, HGE.out]
  rintro e w2 ⟨rfl, hB2⟩
  have HB2 := hide (Below.to HB1.out hB2 (Nat.le_refl _))
  clear hB2 k0 k1 k2 k3 k4 k5 k6
  go_wp2_with (go_at_call 17; refine (works_any _).mono ?_; rintro e w3 ⟨rfl, hB3⟩)
  go_ret
  exact ⟨rfl, Below.to (Below.to HB0.out HB2.out (Nat.le_refl _)) hB3 (Nat.le_refl _)⟩

theorem own_WiresGuards : ownKnob Try.prog.godebug = none := by kernel_rfl
theorem laid_WiresGuards : laidOutB Try.prog = true := by kernel_rfl
theorem par_WiresGuards : ∀ t ∈ Try.f8.params.toList, Try.prog.readableRec t = true ∧ t < Try.prog.types.size := by
  rw [Try.params8]
  intro t ht
  simp only [List.mem_cons, List.not_mem_nil, or_false] at ht
  rcases ht with rfl | rfl | rfl <;> exact ⟨by kernel_rfl, of_decide_eq_true (by kernel_rfl)⟩
set_option maxRecDepth 100000 in
theorem wiresGuards_lifted (os : Os) (started : os.Started) (H : Type) (enc : TypeId × Value → H) :
    ReturnsInHanded {} Try.checked os 8 .any (Rows.wiresGuardsSpec.pre6 enc Try.prog Try.f8 Rows.wiresGuardsRow.domain false) (Rows.wiresGuardsSpec.post enc Try.prog Try.f8 false true false false) := by
  refine returnsInHanded_of_change (C := Try.checked) own_WiresGuards started (by kernel_rfl) Try.func8
    (ChangeSpec.witness6 (enc := enc) (C := Try.checked) false ⟨#[], #[.agg #[.int .i64 0, .int .i64 0], .agg #[.int .i64 0, .int .i64 0, .int .i64 0, .int .i64 0, .int .i64 0], .int .i64 0], []⟩ 8 (by kernel_rfl) (by kernel_rfl) (by kernel_rfl) (by kernel_rfl)) ?_
  intro W base args ds gs before hval0 hW hcnd _
  have hval : ∀ (j : Nat) t v, Try.f8.params[j]? = some t → args[j]? = some v → Value.okWide Try.prog W .any base t v := hval0
  have hW' := hW
  obtain ⟨p, q, hA0, hV, rfl, hfz, hnd⟩ := hW
  have hA : DataW.TrodAll enc Try.prog W 0 (fun _ => true) true Try.f8.params.toList args.toList ds p := hA0
  have hAll := hA
  have hltp : ∀ x ∈ p, x.block < W.heap.size := fun x hx => hW'.lt x (List.mem_append_left _ hx)
  rw [Try.params8] at hA hval
  obtain ⟨v0, v1, v2, d0, d1, d2, p0, p1, p2, rfl, rfl, rfl, h0, h1, h2⟩ := trodAll_three hA
  obtain ⟨rfl, rfl⟩ := trodVars_none hV
  obtain ⟨f, rfl⟩ := open_fuse (hval 0 30 v0 rfl rfl) h0
  obtain ⟨g, rfl⟩ := open_gauge (hval 1 23 v1 rfl rfl) h1
  obtain ⟨n, rfl, _⟩ := open_i64 (hval 2 3 v2 rfl rfl) h2
  refine (wiresGuards_walk f g n W).mono fun e W2 ⟨he, hb⟩ => ?_
  subst he
  exact ⟨_, rfl, post_of_below (pv := []) hW' (fun _ _ _ => trodAll_mk1 (shut_bool Try.underlying4 _)) (fun sp hsp => trodAll_stays laid_WiresGuards hb sp _ _ _ _ par_WiresGuards hAll hltp (fun x hx => hsp x (List.mem_append_left _ hx))) (fun _ _ => rfl) rfl hb
    (ok_one (by kernel_rfl) rfl (okWide_bool_mk Try.underlying4 _))⟩
theorem wiresGuards_holds : Rows.WiresGuardsSaid :=
  OpenClaim.holds_of_wide 8 Try.f8 rfl rfl rfl rfl rfl rfl rfl ⟨rfl, rfl, rfl, rfl, rfl⟩ rfl rfl rfl rfl rfl (by kernel_rfl) Try.func8 (by kernel_rfl)
    (of_decide_eq_true (by kernel_rfl)) (by unfold Func.isWrapper; first | (rw [if_pos (by decide +kernel)]; kernel_rfl) | (rw [if_neg (by decide +kernel)]; exact ⟨rfl, rfl⟩))
    (fun os started H enc _ => wiresGuards_lifted os started H enc)
#print axioms wiresGuards_holds

end Go.Proofs.Ytejjjijaojkohaa

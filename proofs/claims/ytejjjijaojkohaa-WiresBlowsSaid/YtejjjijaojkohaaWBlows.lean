/- Blow and Holds return what the document specifies: for every fuse, current and cycle; no condition. -/
import Derived.Test.YtejjjijaojkohaaRows
import Derived.Test.YtejjjijaojkohaaW18
import Derived.Test.YtejjjijaojkohaaWO
import Derived.Deep.RegionHeld3
import Derived.Deep.DrawnRows
namespace Go.Proofs.Ytejjjijaojkohaa
open Go.Joins Go.ChangeShapes Go.WideShapes Go.ChangeAt Go.RowKit Go.Deep
set_option linter.unusedVariables false
attribute [local go_sem ↓] Go.wp_at_zero Go.wp_at_succ

set_option maxHeartbeats 1000000 in
theorem wiresBlows_walk (f : Fu) (n : Int) (v : Value) (cs : List Cu) (w : World) (hm : cs.length ≤ maxLen) (h : Cyc w w.heap.size v cs) :
    Calls Try.prog 4 #[.agg #[.int .i64 f.rating, .int .i64 f.melt], .int .i64 n, v] w fun e w' => e = .returned (.bool true) ∧ Below w.heap.size w w' := by
  have H := hide h
  obtain ⟨A0, cap0, rfl⟩ := h.form
  clear h
  by_cases hn : 20 < cs.length
  · have hd : decide (20 < cs.length) = true := by simpa using hn
    go_enter Try.func4, Try.ntmps4
    go_wp2_with (first
      | (go_at_call 18; refine (far_any _ _ _ _ _ rfl hm).mono ?_; rw [hd]; rintro e w1 ⟨rfl, rfl⟩)
      | (go_at_call 17; refine (works_any _).mono ?_; rintro e w3 ⟨rfl, hB3⟩))
    go_ret
    exact ⟨rfl, (by repeat (first | exact Below.refl _ _ | assumption | refine Below.drew ?_ | refine Below.drewN ?_ _ | refine Below.allocT ?_ (Nat.le_refl _) _ | refine Below.setCell ?_ (by simp <;> omega) _ | refine Below.to ?_ (by assumption) (Nat.le_refl _)))⟩
  · have hd : decide (20 < cs.length) = false := by simpa using hn
    have hn' : cs.length ≤ 20 := by omega
    obtain ⟨bn, hbn⟩ : ∃ x, blowN f n = x := ⟨_, rfl⟩
    obtain ⟨bd, hbd⟩ : ∃ x, blowD f n = x := ⟨_, rfl⟩
    obtain ⟨be, hbe⟩ : ∃ x, blowErr f n = x := ⟨_, rfl⟩
    obtain ⟨hv, hhv⟩ : ∃ x, holdsVal f cs = x := ⟨_, rfl⟩
    obtain ⟨he, hhe⟩ : ∃ x, holdsErr f cs = x := ⟨_, rfl⟩
    have HBN := hide hbn
    have HBD := hide hbd
    have HBE := hide hbe
    have HHV := hide hhv
    have HHE := hide hhe
    clear hbn hbd hbe hhv hhe
    go_enter Try.func4, Try.ntmps4
    go_wp2_with (go_at_call 18; refine (far_any _ _ _ _ _ rfl hm).mono ?_; rw [hd]; rintro e w1 ⟨rfl, rfl⟩)
    obtain ⟨w0, hw0⟩ : ∃ w0 : World, w.alloc (.cells #[.int .i64 f.rating, .int .i64 f.melt] 30) = w0 := ⟨_, rfl⟩
    have hg0 : FuseAt w0 w.heap.size f := by unfold FuseAt; rw [← hw0, heap_new _ _ _ rfl]
    have hB0 : Below w.heap.size w w0 := by rw [← hw0]; exact (by repeat (first | exact Below.refl _ _ | assumption | refine Below.drew ?_ | refine Below.drewN ?_ _ | refine Below.allocT ?_ (Nat.le_refl _) _ | refine Below.setCell ?_ (by simp <;> omega) _ | refine Below.to ?_ (by assumption) (Nat.le_refl _)))
    have HC0 : Hid (Cyc w0 w0.heap.size (.slice A0 cs.length cap0) cs) := (H.out.below hB0).more hB0.size
    have HG0 := hide hg0
    have HB0 := hide hB0
    rw [hw0]
    clear hg0 hw0 hB0
    refine (Blow_any f n _).mono ?_
    rw [HBN.out, HBD.out, HBE.out]
    rintro e w1 ⟨rfl, hB1⟩
    obtain ⟨d0, d1, hC1⟩ := fuse2 HG0.out hB1
    go_wp2_with fail
    refine (rBlow_any f n _).mono ?_
    rw [HBN.out, HBD.out, HBE.out]
    rintro e w2 ⟨rfl, hB2⟩
    have HC2 := hide (Below.to hC1 hB2 (Nat.le_refl _))
    clear d0 d1 hC1 hB1 hB2
    obtain ⟨d0, d1, _⟩ := fuse2 HG0.out HC2.out
    have HG2 : Hid (FuseAt w2 w.heap.size f) := box_to HG0.out HC2.out
    have HY2 : Hid (Cyc w2 w2.heap.size (.slice A0 cs.length cap0) cs) := HC0.out.up HC2.out
    obtain ⟨k0, k1, k2⟩ := fuse2 HG2.out (Below.refl _ w2)
    go_wp2_with fail
    go_region_held3 (fun w' => w'.cell? ⟨w.heap.size, 0, none⟩ = some (.int .i64 f.rating) ∧ w'.cell? ⟨w.heap.size, 1, none⟩ = some (.int .i64 f.melt) ∧ Below w2.heap.size w2 w')
      (exact fuse2 HG2.out (by repeat (first | exact Below.refl _ _ | assumption | refine Below.drew ?_ | refine Below.drewN ?_ _ | refine Below.allocT ?_ (Nat.le_refl _) _ | refine Below.setCell ?_ (by simp <;> omega) _ | refine Below.to ?_ (by assumption) (Nat.le_refl _))))
      (first | (go_at_call 22; refine (cycle_any _ cs _ hn' (by exact HY2.out)).mono ?_; rintro e w4 ⟨v4, rfl, hc4, hB4⟩)
             | (go_at_call 21; refine (Holds_any f _ cs _ hn' (by exact hc4)).mono ?_; rw [HHV.out, HHE.out]; rintro e w5 ⟨rfl, hB5⟩))
    rename_i hh5
    obtain ⟨j0, j1, hW5⟩ := hh5
    have HC5 : Hid (Cyc w5 w5.heap.size (.slice A0 cs.length cap0) cs) := HY2.out.up hW5
    have HW5 := hide hW5
    clear k0 k1 k2 d0 d1 hc4 hB4 hB5 hW5
    go_wp2_with fail
    refine (rHolds_any f _ cs _ hn' HC5.out).mono ?_
    rw [HHV.out, HHE.out]
    rintro e w6 ⟨rfl, hB6⟩
    go_wp2_with (go_at_call 17; refine (works_any _).mono ?_; rintro e w7 ⟨rfl, hB7⟩)
    go_ret
    exact ⟨rfl, Below.to (Below.to (Below.to (Below.to HB0.out HC2.out (Nat.le_refl _)) HW5.out (Nat.le_refl _)) hB6 (Nat.le_refl _)) hB7 (Nat.le_refl _)⟩

theorem own_WiresBlows : ownKnob Try.prog.godebug = none := by kernel_rfl
theorem laid_WiresBlows : laidOutB Try.prog = true := by kernel_rfl
theorem par_WiresBlows : ∀ t ∈ Try.f4.params.toList, Try.prog.readableRec t = true ∧ t < Try.prog.types.size := by
  rw [Try.params4]
  intro t ht
  simp only [List.mem_cons, List.not_mem_nil, or_false] at ht
  rcases ht with rfl | rfl | rfl <;> exact ⟨by kernel_rfl, of_decide_eq_true (by kernel_rfl)⟩
set_option maxRecDepth 100000 in
theorem wiresBlows_lifted (os : Os) (started : os.Started) (H : Type) (enc : TypeId × Value → H) :
    ReturnsInHanded {} Try.checked os 4 .any (Rows.wiresBlowsSpec.pre6 enc Try.prog Try.f4 Rows.wiresBlowsRow.domain false) (Rows.wiresBlowsSpec.post enc Try.prog Try.f4 false true false false) := by
  refine returnsInHanded_of_change (C := Try.checked) own_WiresBlows started (by kernel_rfl) Try.func4
    (ChangeSpec.witness6 (enc := enc) (C := Try.checked) false ⟨#[], #[.agg #[.int .i64 0, .int .i64 0], .int .i64 0, .slice none 0 0], []⟩ 8 (by kernel_rfl) (by kernel_rfl) (by kernel_rfl) (by kernel_rfl)) ?_
  intro W base args ds gs before hval0 hW hcnd _
  have hval : ∀ (j : Nat) t v, Try.f4.params[j]? = some t → args[j]? = some v → Value.okWide Try.prog W .any base t v := hval0
  have hW' := hW
  obtain ⟨p, q, hA0, hV, rfl, hfz, hnd⟩ := hW
  have hA : DataW.TrodAll enc Try.prog W 0 (fun _ => true) true Try.f4.params.toList args.toList ds p := hA0
  have hAll := hA
  have hltp : ∀ x ∈ p, x.block < W.heap.size := fun x hx => hW'.lt x (List.mem_append_left _ hx)
  rw [Try.params4] at hA hval
  obtain ⟨v0, v1, v2, d0, d1, d2, p0, p1, p2, rfl, rfl, rfl, h0, h1, h2⟩ := trodAll_three hA
  obtain ⟨rfl, rfl⟩ := trodVars_none hV
  obtain ⟨f, rfl⟩ := open_fuse (hval 0 30 v0 rfl rfl) h0
  obtain ⟨n, rfl, _⟩ := open_i64 (hval 1 3 v1 rfl rfl) h1
  obtain ⟨cs, hcy, hcl, _⟩ := open_cycle (hval 2 31 v2 rfl rfl) h2
  refine (wiresBlows_walk f n v2 cs W hcl hcy).mono fun e W2 ⟨he, hb⟩ => ?_
  subst he
  exact ⟨_, rfl, post_of_below (pv := []) hW' (fun _ _ _ => trodAll_mk1 (shut_bool Try.underlying4 _)) (fun sp hsp => trodAll_stays laid_WiresBlows hb sp _ _ _ _ par_WiresBlows hAll hltp (fun x hx => hsp x (List.mem_append_left _ hx))) (fun _ _ => rfl) rfl hb
    (ok_one (by kernel_rfl) rfl (okWide_bool_mk Try.underlying4 _))⟩
theorem wiresBlows_holds : Rows.WiresBlowsSaid :=
  OpenClaim.holds_of_wide 4 Try.f4 rfl rfl rfl rfl rfl rfl rfl ⟨rfl, rfl, rfl, rfl, rfl⟩ rfl rfl rfl rfl rfl (by kernel_rfl) Try.func4 (by kernel_rfl)
    (of_decide_eq_true (by kernel_rfl)) (by unfold Func.isWrapper; first | (rw [if_pos (by decide +kernel)]; kernel_rfl) | (rw [if_neg (by decide +kernel)]; exact ⟨rfl, rfl⟩))
    (fun os started H enc _ => wiresBlows_lifted os started H enc)
#print axioms wiresBlows_holds

end Go.Proofs.Ytejjjijaojkohaa

/- A fuse that guards a wire: the reference's walk, and the least current under which it does not. -/
import Derived.Test.YtejjjijaojkohaaRows
import Derived.Test.YtejjjijaojkohaaW20
namespace Go.Proofs.Ytejjjijaojkohaa
open Go.RowKit
set_option linter.unusedVariables false

theorem guard_end {f : Fu} {g : Ga} {amb a : Int} (hf : f.Ok) (h0 : 0 ≤ a) (h1 : a ≤ 500) {k : Nat} (hd : blowDen f a ≠ 0) (h : ¬ (k : Int) * blowDen f a < blowNum f a) (hw : ∀ j : Nat, j < k → rsC g a j + amb ≤ g.limit) : guardB f g amb a = true := by
  refine guard_yes fun t ht => ?_
  rcases ht with ht | ht
  · exact absurd ht hd
  · rcases Nat.lt_or_ge t k with h2 | h2
    · exact hw t h2
    · have hb := blow_range hf h0 h1
      have : (k : Int) * blowDen f a ≤ (t : Int) * blowDen f a := Int.mul_le_mul_of_nonneg_right (by omega) hb.2.2.1
      omega

set_option maxRecDepth 100000 in
set_option maxHeartbeats 2000000 in
theorem rguards_any (f : Fu) (g : Ga) (amb a : Int) (w : World) (hf : f.Ok) (hg : g.Ok) (hb0 : 0 ≤ amb) (hb1 : amb ≤ 1000) (ha0 : 0 ≤ a) (ha1 : a ≤ 500) :
    Calls Try.prog 100 #[.agg #[.int .i64 f.rating, .int .i64 f.melt], .agg #[.int .i64 g.area, .int .i64 g.ohm, .int .i64 g.heat, .int .i64 g.cool, .int .i64 g.limit], .int .i64 amb, .int .i64 a] w fun e w' => e = .returned (.bool (guardB f g amb a)) ∧ Below w.heap.size w w' := by
  have HF := hide hf
  have HG := hide hg
  have hl0 := hg.limit0
  have hl1 := hg.limit1
  have hbr := blow_range hf ha0 ha1
  have hnp : a ≤ f.rating ∨ 1 ≤ blowNum f a := by
    rcases Int.lt_or_le f.rating a with h | h
    · exact .inr (hbr.2.2.2.2.1 h).2
    · exact .inl h
  have hdp : a ≤ f.rating → blowDen f a = 0 := fun h => (hbr.2.2.2.2.2 h).1
  obtain ⟨nu, hnu⟩ : ∃ x, blowNum f a = x := ⟨_, rfl⟩
  obtain ⟨de, hde⟩ : ∃ x, blowDen f a = x := ⟨_, rfl⟩
  rw [hnu, hde] at hbr
  obtain ⟨n0, n1, d0, d1, _, _⟩ := hbr
  have HNU := hide hnu
  have HDE := hide hde
  clear hnu hde hf hg hnp hdp
  go_enter Try.func100, Try.ntmps100
  go_wp2_with fail
  obtain ⟨w0, hw0⟩ : ∃ w0 : World, (w.alloc (.cells #[.int .i64 f.rating, .int .i64 f.melt] 30)).alloc (.cells #[.int .i64 g.area, .int .i64 g.ohm, .int .i64 g.heat, .int .i64 g.cool, .int .i64 g.limit] 23) = w0 := ⟨_, rfl⟩
  have hs0 : w0.heap.size = w.heap.size + 2 := by rw [← hw0]; simp
  have hga : GaugeAt w0 (w.heap.size + 1) g := by unfold GaugeAt; rw [← hw0, heap_new _ _ _ (by simp)]
  have hB0 : Below w.heap.size w w0 := by rw [← hw0]; exact (by repeat (first | exact Below.refl _ _ | assumption | refine Below.drew ?_ | refine Below.drewN ?_ _ | refine Below.allocT ?_ (Nat.le_refl _) _ | refine Below.setCell ?_ (by simp <;> omega) _ | refine Below.to ?_ (by assumption) (Nat.le_refl _)))
  have HGA := hide hga
  have HB0 := hide hB0
  rw [hw0]
  clear hga hw0 hB0
  refine (rblow_any f a _ HF.out ha0 ha1).mono ?_
  rw [HNU.out, HDE.out]
  rintro e w1 ⟨rfl, hB1⟩
  have HGA1 : Hid (GaugeAt w1 (w.heap.size + 1) g) := box_to HGA.out hB1
  have HW1 : Hid (Below w.heap.size w w1) := Below.to HB0.out hB1 (by omega)
  clear hB1 hs0
  go_wp2_with fail
  go_loopg [11, 12, 13] (g.limit.toNat + 1) (fun m rise s _ wr => ∃ (k : Nat) (x : Int), Hid (m = (g.limit + 1 - x).toNat) ∧ rise = .int .i64 x ∧ s = .int .i64 k ∧ (k : Int) ≤ x ∧ x ≤ 100000 ∧ Hid (rsC g a k = x) ∧ Hid (∀ j : Nat, j < k → rsC g a j + amb ≤ g.limit) ∧ Below w1.heap.size w1 wr)
  case atStart => exact ⟨0, 0, (by show _ = _; omega), rfl, rfl, by omega, by omega, rfl, fun j hj => absurd hj (by omega), Below.refl _ _⟩
  case round =>
    obtain ⟨k, x, hm, rfl, rfl, hkx, hxl, hx, hall, hB⟩ := hrel
    have hk0 : (0 : Int) ≤ k := by omega
    obtain ⟨q0, q1⟩ := mul_range hk0 (show (k : Int) ≤ 100000 by omega) d0 d1
    have HGR : Hid (GaugeAt wr (w.heap.size + 1) g) := box_to HGA1.out hB
    obtain ⟨j0, j1, j2, j3, j4, _⟩ := gauge5 HGR.out (Below.refl _ wr)
    have hgo : de = 0 ∨ ¬ de = 0 ∧ (k : Int) * de < nu ∨ ¬ de = 0 ∧ ¬ (k : Int) * de < nu := by omega
    have hWr : Below w.heap.size w wr := HW1.out.trans (hB.mono HW1.out.size)
    have HWR := hide hWr
    clear hWr
    rcases hgo with hd | ⟨hd, hlt⟩ | ⟨hd, hlt⟩
    · have hd1 : (de == 0) = true := by simp [hd]
      have HC : Hid (blowDen f a = 0 ∨ (k : Int) * blowDen f a < blowNum f a) := .inl (by rw [HDE.out]; exact hd)
      clear hd
      by_cases hov : g.limit < x + amb
      · go_wp2_with fail
        go_ret
        exact ⟨ret_bool (guard_no (fun hp => by have := hp k HC.out; rw [hx.out] at this; omega)).symm, HWR.out⟩
      · obtain ⟨x2, hx2⟩ : ∃ x2, warmI g x a = x2 := ⟨_, rfl⟩
        have hrg := warmI_range g x a HG.out.heat0 HG.out.heat1 HG.out.cool0 HG.out.cool1 (by omega) ha0 ha1
        rw [hx2] at hrg
        obtain ⟨r0, r1⟩ := hrg
        have hx3 : rsC g a (k + 1) = x2 := by rw [rsC_succ, hx.out, hx2]
        have hup := rsC_up HG.out ha0 ha1 k
        rw [hx.out, hx3] at hup
        have HX3 := hide hx3
        have HX2 := hide hx2
        clear hx2 hx3
        go_wp2_with fail
        refine (rwarm_any g x a _ HG.out.heat0 HG.out.heat1 HG.out.cool0 HG.out.cool1 (by omega) (by omega) ha0 ha1).mono ?_
        rw [HX2.out]
        rintro e w2 ⟨rfl, hB2⟩
        have HB2 : Hid (Below w1.heap.size w1 w2) := Below.to hB hB2 (Nat.le_refl _)
        clear hB2 j0 j1 j2 j3 j4
        by_cases hst : x2 = x
        · have hst1 : (x2 == x) = true := by simp [hst]
          have HST := hide hst
          clear hst
          go_wp2_with fail
          go_ret
          exact ⟨ret_bool (guard_stays HF.out HG.out ha0 ha1 (s := k) (by rw [HX3.out, hx.out]; exact HST.out) (by rw [hx.out]; omega)).symm, HW1.out.trans (HB2.out.mono HW1.out.size)⟩
        · have hst1 : (x2 == x) = false := by simp [hst]
          go_wp2_with fail
          go_roundg ((g.limit + 1 - x2).toNat)
          case rel => exact ⟨k + 1, x2, rfl, rfl, by go_num, by omega, by omega, HX3.out, (fun j hj => by
              rcases Nat.lt_or_ge j k with h | h
              · exact hall.out j h
              · rw [show j = k from by omega, hx.out]; omega), HB2.out⟩
          case measure =>
            rw [hm.out]
            omega
    · have hd1 : (de == 0) = false := by simp [hd]
      have HC : Hid (blowDen f a = 0 ∨ (k : Int) * blowDen f a < blowNum f a) := .inr (by rw [HDE.out, HNU.out]; exact hlt)
      clear hd
      by_cases hov : g.limit < x + amb
      · go_wp2_with fail
        go_ret
        exact ⟨ret_bool (guard_no (fun hp => by have := hp k HC.out; rw [hx.out] at this; omega)).symm, HWR.out⟩
      · obtain ⟨x2, hx2⟩ : ∃ x2, warmI g x a = x2 := ⟨_, rfl⟩
        have hrg := warmI_range g x a HG.out.heat0 HG.out.heat1 HG.out.cool0 HG.out.cool1 (by omega) ha0 ha1
        rw [hx2] at hrg
        obtain ⟨r0, r1⟩ := hrg
        have hx3 : rsC g a (k + 1) = x2 := by rw [rsC_succ, hx.out, hx2]
        have hup := rsC_up HG.out ha0 ha1 k
        rw [hx.out, hx3] at hup
        have HX3 := hide hx3
        have HX2 := hide hx2
        clear hx2 hx3
        go_wp2_with fail
        refine (rwarm_any g x a _ HG.out.heat0 HG.out.heat1 HG.out.cool0 HG.out.cool1 (by omega) (by omega) ha0 ha1).mono ?_
        rw [HX2.out]
        rintro e w2 ⟨rfl, hB2⟩
        have HB2 : Hid (Below w1.heap.size w1 w2) := Below.to hB hB2 (Nat.le_refl _)
        clear hB2 j0 j1 j2 j3 j4
        by_cases hst : x2 = x
        · have hst1 : (x2 == x) = true := by simp [hst]
          have HST := hide hst
          clear hst
          go_wp2_with fail
          go_ret
          exact ⟨ret_bool (guard_stays HF.out HG.out ha0 ha1 (s := k) (by rw [HX3.out, hx.out]; exact HST.out) (by rw [hx.out]; omega)).symm, HW1.out.trans (HB2.out.mono HW1.out.size)⟩
        · have hst1 : (x2 == x) = false := by simp [hst]
          go_wp2_with fail
          go_roundg ((g.limit + 1 - x2).toNat)
          case rel => exact ⟨k + 1, x2, rfl, rfl, by go_num, by omega, by omega, HX3.out, (fun j hj => by
              rcases Nat.lt_or_ge j k with h | h
              · exact hall.out j h
              · rw [show j = k from by omega, hx.out]; omega), HB2.out⟩
          case measure =>
            rw [hm.out]
            omega
    · have hd1 : (de == 0) = false := by simp [hd]
      have HD : Hid (blowDen f a ≠ 0) := by show _ ≠ _; rw [HDE.out]; exact hd
      have HLT := hide hlt
      clear hd
      go_wp2_with fail
      go_ret
      exact ⟨ret_bool (guard_end HF.out ha0 ha1 HD.out (by rw [HDE.out, HNU.out]; have := HLT.out; omega) hall.out).symm, HWR.out⟩
end Go.Proofs.Ytejjjijaojkohaa

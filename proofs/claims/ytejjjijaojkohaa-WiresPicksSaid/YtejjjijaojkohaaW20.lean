/- A fuse that guards a wire: the walks of both. -/
import Derived.Test.YtejjjijaojkohaaRows
import Derived.Test.YtejjjijaojkohaaW19
import Derived.Test.YtejjjijaojkohaaW11
import Derived.Deep.RegionHeld3
namespace Go.Proofs.Ytejjjijaojkohaa
open Go.RowKit
set_option linter.unusedVariables false

theorem cyc_oneB {w : World} {k B : Nat} {a s : Int} {t : TypeId} (h : w.heap[k]? = some (.cells #[.int .i64 a, .int .i64 s] t (0, 0))) (hk : k < B) : Cyc w B (.slice (some ⟨k, 0, none⟩) 1 1) [⟨a, s⟩] := by
  refine ⟨_, k, 0, 1, rfl, Nat.le_refl _, .inl ⟨rfl, hk⟩, fun i j hi hj => ?_⟩
  have hi0 : i = 0 := by have : i < 1 := hi; omega
  subst hi0
  rw [cellOf h]
  match j, hj with
  | 0, _ => rfl
  | 1, _ => rfl

set_option maxRecDepth 100000 in
set_option maxHeartbeats 2000000 in
theorem guarded_any (f : Fu) (g : Ga) (amb a : Int) (w : World) (hf : f.Ok) (hg : g.Ok) (hb0 : 0 ≤ amb) (hb1 : amb ≤ 1000) (ha0 : 0 ≤ a) (ha1 : a ≤ 500) :
    Calls Try.prog 99 #[.agg #[.int .i64 f.rating, .int .i64 f.melt], .agg #[.int .i64 g.area, .int .i64 g.ohm, .int .i64 g.heat, .int .i64 g.cool, .int .i64 g.limit], .int .i64 amb, .int .i64 a] w fun e w' => e = .returned (.bool (guardB f g amb a)) ∧ Below w.heap.size w w' := by
  have HF := hide hf
  have HG := hide hg
  have hl0 := hg.limit0
  have hl1 := hg.limit1
  clear hf hg
  by_cases hc : g.limit - amb < 0
  · go_enter Try.func99, Try.ntmps99
    go_wp2
    go_ret
    exact ⟨ret_bool (guard_cold HF.out HG.out ha0 ha1 hc).symm, (by repeat (first | exact Below.refl _ _ | assumption | refine Below.drew ?_ | refine Below.drewN ?_ _ | refine Below.allocT ?_ (Nat.le_refl _) _ | refine Below.setCell ?_ (by simp <;> omega) _ | refine Below.to ?_ (by assumption) (Nat.le_refl _)))⟩
  · have hbr := blow_range HF.out ha0 ha1
    obtain ⟨nu, hnu⟩ : ∃ x, blowNum f a = x := ⟨_, rfl⟩
    obtain ⟨de, hde⟩ : ∃ x, blowDen f a = x := ⟨_, rfl⟩
    rw [hnu, hde] at hbr
    obtain ⟨n0, n1, d0, d1, _, _⟩ := hbr
    have HNU := hide hnu
    have HDE := hide hde
    clear hnu hde
    obtain ⟨li, hli⟩ : ∃ x, g.limit - amb = x := ⟨_, rfl⟩
    have HLI := hide hli
    have hli0 : 0 ≤ li := by omega
    have hli1 : li ≤ 1000 := by omega
    go_enter Try.func99, Try.ntmps99
    go_wp2_with fail
    obtain ⟨w0, hw0⟩ : ∃ w0 : World, (((w.alloc (.cells #[.int .i64 f.rating, .int .i64 f.melt] 30)).alloc (.cells #[.int .i64 g.area, .int .i64 g.ohm, .int .i64 g.heat, .int .i64 g.cool, .int .i64 g.limit] 23)).alloc (.cells #[.int .i64 a, .int .i64 1] 54)).alloc (.cells #[.int .i64 g.area, .int .i64 g.ohm, .int .i64 g.heat, .int .i64 g.cool, .int .i64 g.limit, .int .i64 0] 94) = w0 := ⟨_, rfl⟩
    have hs0 : w0.heap.size = w.heap.size + 4 := by rw [← hw0]; simp
    have hcu : w0.heap[w.heap.size + 2]? = some (.cells #[.int .i64 a, .int .i64 1] 54 (0, 0)) := by rw [← hw0, heap_old _ _ _ (by simp <;> omega), heap_new _ _ _ (by simp)]
    have hwi : WireAt w0 (w.heap.size + 3) g 0 := by unfold WireAt; rw [← hw0, heap_new _ _ _ (by simp)]
    have hB0 : Below w.heap.size w w0 := by rw [← hw0]; exact (by repeat (first | exact Below.refl _ _ | assumption | refine Below.drew ?_ | refine Below.drewN ?_ _ | refine Below.allocT ?_ (Nat.le_refl _) _ | refine Below.setCell ?_ (by simp <;> omega) _ | refine Below.to ?_ (by assumption) (Nat.le_refl _)))
    have HCU := hide hcu
    have HWI := hide hwi
    have HB0 := hide hB0
    rw [hw0]
    clear hcu hwi hw0 hB0 hli
    refine (blow_any f a _ HF.out ha0 ha1).mono ?_
    rw [HNU.out, HDE.out]
    rintro e w1 ⟨rfl, hB1⟩
    have HB1 := hide hB1
    have hs1 : w.heap.size + 4 ≤ w1.heap.size := by have := hB1.size; omega
    clear hB1 hs0
    have HW1 : Hid (Below w.heap.size w w1) := Below.to HB0.out HB1.out (by omega)
    have HWI1 : Hid (WireAt w1 (w.heap.size + 3) g 0) := box_to HWI.out HB1.out
    have HCY1 : Hid (Cyc w1 (w.heap.size + 3) (.slice (some ⟨w.heap.size + 1 + 1, 0, none⟩) 1 1) (cs1 a)) := cyc_oneB (box_to HCU.out HB1.out) (by omega)
    by_cases hd : de = 0
    · have hd1 : (de == 0) = true := by simp [hd]
      have HD : Hid (blowDen f a = 0) := by show _ = _; rw [HDE.out]; exact hd
      clear hd
      obtain ⟨pk, hpk⟩ : ∃ x, peakI g (cs1 a) li = x := ⟨_, rfl⟩
      have HPK := hide hpk
      clear hpk
      go_wp2_with fail
      refine (peak_any (w.heap.size + 1 + 1 + 1) g li _ (cs1 a) w1 HWI1.out (cs1_ok ha0 ha1) HCY1.out HG.out hli0 hli1).mono ?_
      rw [HPK.out]
      rintro e w2 ⟨rfl, hg2⟩
      go_wp2_with fail
      go_ret
      exact ⟨ret_bool (by rw [guard_never HF.out HG.out ha0 ha1 HD.out (by rw [HLI.out]; exact hli0), HLI.out, HPK.out]), below_only HW1.out hg2 (by omega)⟩
    · have hd1 : (de == 0) = false := by simp [hd]
      have HD : Hid (blowDen f a ≠ 0) := by show _ ≠ _; rw [HDE.out]; exact hd
      have hd2 : 1 ≤ de := by omega
      clear hd
      go_wp2_with fail
      go_loopg [14, 15] (li.toNat + 1) (fun m s before wr => ∃ (k : Nat) (x : Int), Hid (m = (li - x + 1).toNat) ∧ s = .int .i64 (k + 1) ∧ (k : Int) ≤ x ∧ x ≤ li ∧ Hid (rsC g a k = x) ∧ Hid (WireAt wr (w.heap.size + 3) g x) ∧ Hid (w1.grownBy wr (some (w.heap.size + 3))))
      case atStart => exact ⟨0, 0, (by show _ = _; omega), rfl, by omega, by omega, rfl, HWI1.out, only_refl _ _⟩
      case round =>
        obtain ⟨k, x, hm, rfl, hkx, hxl, hx, HWR, HGR⟩ := hrel
        obtain ⟨q0, q1⟩ := mul_range (show (0:Int) ≤ (k:Int) + 1 by omega) (show (k:Int) + 1 ≤ 1001 by omega) d0 d1
        by_cases hlt : ((k : Int) + 1) * de < nu
        · obtain ⟨x2, hx2⟩ : ∃ x2, warmI g x a = x2 := ⟨_, rfl⟩
          have hrg := warmI_range g x a HG.out.heat0 HG.out.heat1 HG.out.cool0 HG.out.cool1 (by omega) ha0 ha1
          rw [hx2] at hrg
          obtain ⟨r0, r1⟩ := hrg
          have hx3 : rsC g a (k + 1) = x2 := by rw [rsC_succ, hx.out, hx2]
          have hup := rsC_up HG.out ha0 ha1 k
          rw [hx.out, hx3] at hup
          have HX3 := hide hx3
          have HX2 := hide hx2
          have hb5 : wr.cell? ⟨w.heap.size + 1 + 1 + 1, 5, none⟩ = some (.int .i64 x) := cellOf HWR.out 5
          clear hx2 hx3
          go_wp2_with fail
          refine (wireSecond_any (w.heap.size + 1 + 1 + 1) g x a _ HWR.out HG.out.heat0 HG.out.heat1 HG.out.cool0 HG.out.cool1 (by omega) (by omega) ha0 ha1).mono ?_
          rw [HX2.out]
          rintro e w2 ⟨rfl, hw2, hg2⟩
          have HW2 := hide hw2
          have HG2 : Hid (w1.grownBy w2 (some (w.heap.size + 3))) := only_trans HGR.out hg2
          have hc5 : w2.cell? ⟨w.heap.size + 1 + 1 + 1, 5, none⟩ = some (.int .i64 x2) := cellOf hw2 5
          clear hw2 hg2 hb5
          by_cases hov : li < x2
          · go_wp2_with fail
            go_ret
            exact ⟨ret_bool (guard_warm HF.out HG.out ha0 ha1 (s := k + 1) (.inr (by rw [HDE.out, HNU.out]; exact hlt)) (by rw [HLI.out, HX3.out]; exact hov)).symm, below_only HW1.out HG2.out (by omega)⟩
          · by_cases hst : x2 = x
            · have hst1 : (x2 == x) = true := by simp [hst]
              have HST := hide hst
              clear hst
              go_wp2_with fail
              go_ret
              exact ⟨ret_bool (guard_stays HF.out HG.out ha0 ha1 (s := k) (by rw [HX3.out, hx.out]; exact HST.out) (by rw [HLI.out, hx.out]; exact hxl)).symm, below_only HW1.out HG2.out (by omega)⟩
            · have hst1 : (x2 == x) = false := by simp [hst]
              go_wp2_with fail
              go_roundg ((li - x2 + 1).toNat)
              case rel => exact ⟨k + 1, x2, rfl, by go_num, by omega, by omega, HX3.out, HW2.out, HG2.out⟩
              case measure =>
                rw [hm.out]
                omega
        · go_wp2_with fail
          go_ret
          exact ⟨ret_bool (guard_opens HF.out HG.out ha0 ha1 (s := k) HD.out (by rw [HDE.out, HNU.out, show ((k + 1 : Nat) : Int) = (k : Int) + 1 from by omega]; omega) (by rw [HLI.out, hx.out]; exact hxl)).symm, below_only HW1.out HGR.out (by omega)⟩
end Go.Proofs.Ytejjjijaojkohaa

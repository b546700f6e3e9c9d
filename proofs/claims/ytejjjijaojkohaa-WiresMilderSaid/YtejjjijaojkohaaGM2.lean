/- Part 2 of this claim's texts: walks and plain laws. -/
import Derived.Test.YtejjjijaojkohaaRows
import Derived.Test.YtejjjijaojkohaaGM1
import Derived.Deep.DrawnRows
import Derived.Deep.RegionHeld3
import Derived.Deep.RegionWith
import Derived.ProofKit
import Derived.Lib.SmallJoins
import Derived.Deep.Slices
import Derived.Deep.Fields
import Derived.ChangeSame
import Derived.Below
import Derived.Test.YtejjjijaojkohaaGM0
import Derived.Deep.RegionHeld
import Derived.Deep.Cut
/- Selective fuses: walks. -/
namespace Go.Proofs.Ytejjjijaojkohaa
open Go.RowKit
set_option linter.unusedVariables false

/-- Block b holds a fuse's two numbers. -/
def FuseAt (w : World) (b : Nat) (f : Fu) : Prop := w.heap[b]? = some (.cells #[.int .i64 f.rating, .int .i64 f.melt] 30 (0, 0))

theorem selClo_any (b2 b3 : Nat) (lo up : Fu) (a : Int) (w : World) (h2 : FuseAt w b2 lo) (h3 : FuseAt w b3 up) (hl : lo.Ok) (hu : up.Ok) (ha0 : 0 ≤ a) (ha1 : a ≤ 500) :
    Calls Try.prog 96 #[.int .i64 a, .pointer (some ⟨b2, 0, none⟩), .pointer (some ⟨b3, 0, none⟩)] w fun e w' => e = .returned (.bool (selB lo up a)) ∧ Below w.heap.size w w' := by
  obtain ⟨n1, n2, n3, n4, _, _⟩ := blow_range hl ha0 ha1
  obtain ⟨m1, m2, m3, m4, _, _⟩ := blow_range hu ha0 ha1
  have HL := hide hl
  have HU := hide hu
  clear hl hu
  obtain ⟨na, hna⟩ : ∃ x, blowNum lo a = x := ⟨_, rfl⟩
  obtain ⟨da, hda⟩ : ∃ x, blowDen lo a = x := ⟨_, rfl⟩
  obtain ⟨nb, hnb⟩ : ∃ x, blowNum up a = x := ⟨_, rfl⟩
  obtain ⟨db, hdb⟩ : ∃ x, blowDen up a = x := ⟨_, rfl⟩
  have HS : Hid (selB lo up a = (decide (0 < db) && (decide (da = 0) || decide (nb * da ≤ na * db)))) := by
    show _ = _
    rw [← hna, ← hda, ← hnb, ← hdb]; rfl
  rw [hna] at n1 n2
  rw [hda] at n3 n4
  rw [hnb] at m1 m2
  rw [hdb] at m3 m4
  have HNA := hide hna
  have HDA := hide hda
  have HNB := hide hnb
  have HDB := hide hdb
  clear hna hda hnb hdb
  obtain ⟨p1, p2⟩ := mul_range n1 n2 m3 m4
  obtain ⟨p3, p4⟩ := mul_range m1 m2 n3 n4
  rw [HS.out]
  have H2 := hide h2
  have H3 := hide h3
  have c0 := cellOf h2 0
  have c1 := cellOf h2 1
  clear h2 h3
  by_cases hc : 0 < db
  · by_cases hd : da = 0
    · have hd' : (da == 0) = true := by simp [hd]
      have HD := hide hd
      clear hd
      go_enter Try.func96, Try.ntmps96
      go_wp2_with fail
      refine (blow_any lo a _ HL.out ha0 ha1).mono ?_
      rw [HNA.out, HDA.out]
      rintro e w1 ⟨rfl, hB1⟩
      have h3 := box_to H3.out hB1
      have d0 := cellOf h3 0
      have d1 := cellOf h3 1
      clear h3
      go_wp2_with fail
      refine (blow_any up a _ HU.out ha0 ha1).mono ?_
      rw [HNB.out, HDB.out]
      rintro e w2 ⟨rfl, hB2⟩
      go_wp2_with fail
      go_ret
      exact ⟨ret_bool (by simp [hc, HD.out]), (by repeat (first | exact Below.refl _ _ | assumption | refine Below.drew ?_ | refine Below.drewN ?_ _ | refine Below.allocT ?_ (Nat.le_refl _) _ | refine Below.setCell ?_ (by simp <;> omega) _ | refine Below.to ?_ (by assumption) (Nat.le_refl _)))⟩
    · have hd' : (da == 0) = false := by simp [hd]
      go_enter Try.func96, Try.ntmps96
      go_wp2_with fail
      refine (blow_any lo a _ HL.out ha0 ha1).mono ?_
      rw [HNA.out, HDA.out]
      rintro e w1 ⟨rfl, hB1⟩
      have h3 := box_to H3.out hB1
      have d0 := cellOf h3 0
      have d1 := cellOf h3 1
      clear h3
      go_wp2_with fail
      refine (blow_any up a _ HU.out ha0 ha1).mono ?_
      rw [HNB.out, HDB.out]
      rintro e w2 ⟨rfl, hB2⟩
      go_wp2_with fail
      go_ret
      exact ⟨ret_bool (by simp [hc, hd]), (by repeat (first | exact Below.refl _ _ | assumption | refine Below.drew ?_ | refine Below.drewN ?_ _ | refine Below.allocT ?_ (Nat.le_refl _) _ | refine Below.setCell ?_ (by simp <;> omega) _ | refine Below.to ?_ (by assumption) (Nat.le_refl _)))⟩
  · go_enter Try.func96, Try.ntmps96
    go_wp2_with fail
    refine (blow_any lo a _ HL.out ha0 ha1).mono ?_
    rw [HNA.out, HDA.out]
    rintro e w1 ⟨rfl, hB1⟩
    have h3 := box_to H3.out hB1
    have d0 := cellOf h3 0
    have d1 := cellOf h3 1
    clear h3
    go_wp2_with fail
    refine (blow_any up a _ HU.out ha0 ha1).mono ?_
    rw [HNB.out, HDB.out]
    rintro e w2 ⟨rfl, hB2⟩
    go_wp2_with fail
    go_ret
    exact ⟨ret_bool (by simp [show ¬ 0 < db by omega]), (by repeat (first | exact Below.refl _ _ | assumption | refine Below.drew ?_ | refine Below.drewN ?_ _ | refine Below.allocT ?_ (Nat.le_refl _) _ | refine Below.setCell ?_ (by simp <;> omega) _ | refine Below.to ?_ (by assumption) (Nat.le_refl _)))⟩

theorem selective_any (lo up : Fu) (w : World) (hl : lo.Ok) (hu : up.Ok) :
    Calls Try.prog 63 #[.agg #[.int .i64 lo.rating, .int .i64 lo.melt], .agg #[.int .i64 up.rating, .int .i64 up.melt]] w fun e w' => e = .returned (.int .i64 (leastI (selB lo up))) ∧ Below w.heap.size w w' := by
  have HL := hide hl
  have HU := hide hu
  clear hl hu
  go_enter Try.func63, Try.ntmps63
  go_wp2_with (go_at_call 95; refine (least_sel (selB lo up) _ _ _ (fun a W ha0 ha1 hB => selClo_any _ _ lo up a W ((hB.block _ (by simp; omega)).trans ((heap_old _ _ _ (by simp)).trans (heap_new _ _ _ rfl))) ((hB.block _ (by simp)).trans (heap_new _ _ _ (by simp))) HL.out HU.out ha0 ha1)).mono ?_; rintro e w1 ⟨rfl, hB1⟩)
  go_ret
  exact ⟨rfl, (by repeat (first | exact Below.refl _ _ | assumption | refine Below.drew ?_ | refine Below.drewN ?_ _ | refine Below.allocT ?_ (Nat.le_refl _) _ | refine Below.setCell ?_ (by simp <;> omega) _ | refine Below.to ?_ (by assumption) (Nat.le_refl _)))⟩

theorem selB_ref (lo up : Fu) (a : Int) (hb : 0 ≤ blowDen lo a) : selB lo up a = (decide (0 < blowDen up a) && !(decide (blowDen lo a ≠ 0 ∧ (blowDen up a = 0 ∨ blowNum lo a * blowDen up a < blowNum up a * blowDen lo a)))) := by
  unfold selB
  by_cases h1 : 0 < blowDen up a <;> by_cases h2 : blowDen lo a = 0 <;> by_cases h3 : blowNum up a * blowDen lo a ≤ blowNum lo a * blowDen up a
  all_goals simp [h1, h2, h3]
  all_goals first | omega | simp_all

set_option maxRecDepth 100000 in
theorem rselective_any (lo up : Fu) (w : World) (hl : lo.Ok) (hu : up.Ok) :
    Calls Try.prog 64 #[.agg #[.int .i64 lo.rating, .int .i64 lo.melt], .agg #[.int .i64 up.rating, .int .i64 up.melt]] w fun e w' => e = .returned (.int .i64 (leastI (selB lo up))) ∧ Below w.heap.size w w' := by
  have HL := hide hl
  have HU := hide hu
  clear hl hu
  go_enter Try.func64, Try.ntmps64
  go_wp2
  obtain ⟨w0, hw0⟩ : ∃ w0 : World, (w.alloc (.cells #[.int .i64 lo.rating, .int .i64 lo.melt] 30)).alloc (.cells #[.int .i64 up.rating, .int .i64 up.melt] 30) = w0 := ⟨_, rfl⟩
  have hb2 : FuseAt w0 w.heap.size lo := by
    unfold FuseAt; rw [← hw0, heap_old _ _ _ (by simp), heap_new _ _ _ rfl]
  have hb3 : FuseAt w0 (w.heap.size + 1) up := by
    unfold FuseAt; rw [← hw0, heap_new _ _ _ (by simp)]
  have hB0 : Below w.heap.size w w0 := by rw [← hw0]; exact (by repeat (first | exact Below.refl _ _ | assumption | refine Below.drew ?_ | refine Below.drewN ?_ _ | refine Below.allocT ?_ (Nat.le_refl _) _ | refine Below.setCell ?_ (by simp <;> omega) _ | refine Below.to ?_ (by assumption) (Nat.le_refl _)))
  have HB2 := hide hb2
  have HB3 := hide hb3
  rw [hw0]
  clear hb2 hb3 hw0
  go_loopw [5, 6, 7, 8, 9] (fun i _ _ _ _ wr => ∃ k : Nat, k ≤ 501 ∧ i = .int .i64 k ∧ Hid (∀ j : Nat, j < k → selB lo up j = false) ∧ Below w0.heap.size w0 wr) (fun i _ _ _ _ _ => 501 - (intOf i).toNat)
  case atStart => exact ⟨0, by omega, rfl, fun j hj => by omega, Below.refl _ _⟩
  case round =>
    obtain ⟨k, hk, rfl, hz, hB⟩ := hrel
    by_cases hlt : k < 501
    · have hk0 : (0 : Int) ≤ k := by omega
      have hk1 : (k : Int) ≤ 500 := by omega
      obtain ⟨n1, n2, n3, n4, _, _⟩ := blow_range HL.out hk0 hk1
      obtain ⟨m1, m2, m3, m4, _, _⟩ := blow_range HU.out hk0 hk1
      have HS := hide (selB_ref lo up k n3)
      obtain ⟨na, hna⟩ : ∃ x, blowNum lo k = x := ⟨_, rfl⟩
      obtain ⟨da, hda⟩ : ∃ x, blowDen lo k = x := ⟨_, rfl⟩
      obtain ⟨nb, hnb⟩ : ∃ x, blowNum up k = x := ⟨_, rfl⟩
      obtain ⟨db, hdb⟩ : ∃ x, blowDen up k = x := ⟨_, rfl⟩
      rw [hna] at n1 n2
      rw [hda] at n3 n4
      rw [hnb] at m1 m2
      rw [hdb] at m3 m4
      have HS2 : Hid (selB lo up k = (decide (0 < db) && !(decide (da ≠ 0 ∧ (db = 0 ∨ na * db < nb * da))))) := by
        show _ = _
        rw [HS.out, hna, hda, hnb, hdb]
      have HNA := hide hna
      have HDA := hide hda
      have HNB := hide hnb
      have HDB := hide hdb
      clear hna hda hnb hdb HS
      have h2 := (hB.block _ (box_lt HB2.out)).trans HB2.out
      have h3 := (hB.block _ (box_lt HB3.out)).trans HB3.out
      have c0 := cellOf h2 0
      have c1 := cellOf h2 1
      have H3 := hide h3
      clear h2 h3
      by_cases hc : 0 < db
      · obtain ⟨q, hq⟩ : ∃ q, decide (da ≠ 0 ∧ (db = 0 ∨ na * db < nb * da)) = q := ⟨_, rfl⟩
        have HQ := hide hq
        clear hq
        cases q with
        | true =>
          go_wp2_with fail
          refine (rblow_any lo k _ HL.out hk0 hk1).mono ?_
          rw [HNA.out, HDA.out]
          rintro e w1 ⟨rfl, hB1⟩
          have h3 := box_to H3.out hB1
          have d0 := cellOf h3 0
          have d1 := cellOf h3 1
          clear h3
          go_wp2_with fail
          refine (rblow_any up k _ HU.out hk0 hk1).mono ?_
          rw [HNB.out, HDB.out]
          rintro e w2 ⟨rfl, hB2⟩
          go_wp2_with fail
          refine (earlier_any na da nb db _ n1 n3 m1 m3 n2 (by omega) m2 (by omega)).mono ?_
          rw [HQ.out]
          rintro e w3 ⟨rfl, hB3⟩
          go_wp2_with fail
          go_roundw
          case rel => exact ⟨k + 1, by omega, by go_num, fun j hj => by
              rcases Nat.lt_or_ge j k with h | h
              · exact hz.out j h
              · rw [show j = k from by omega, HS2.out, HQ.out]; simp, (by repeat (first | exact Below.refl _ _ | assumption | refine Below.drew ?_ | refine Below.drewN ?_ _ | refine Below.allocT ?_ (Nat.le_refl _) _ | refine Below.setCell ?_ (by simp <;> omega) _ | refine Below.to ?_ (by assumption) (Nat.le_refl _)))⟩
          case measure => simp [intOf]; omega
        | false =>
          go_wp2_with fail
          refine (rblow_any lo k _ HL.out hk0 hk1).mono ?_
          rw [HNA.out, HDA.out]
          rintro e w1 ⟨rfl, hB1⟩
          have h3 := box_to H3.out hB1
          have d0 := cellOf h3 0
          have d1 := cellOf h3 1
          clear h3
          go_wp2_with fail
          refine (rblow_any up k _ HU.out hk0 hk1).mono ?_
          rw [HNB.out, HDB.out]
          rintro e w2 ⟨rfl, hB2⟩
          go_wp2_with fail
          refine (earlier_any na da nb db _ n1 n3 m1 m3 n2 (by omega) m2 (by omega)).mono ?_
          rw [HQ.out]
          rintro e w3 ⟨rfl, hB3⟩
          go_wp2_with fail
          go_ret
          have hBw : Below w.heap.size w wr := hB0.trans (hB.mono hB0.size)
          exact ⟨ret_int (leastI_at _ k hz.out hlt (by rw [HS2.out, HQ.out]; simp [hc])).symm, (by repeat (first | exact Below.refl _ _ | assumption | refine Below.drew ?_ | refine Below.drewN ?_ _ | refine Below.allocT ?_ (Nat.le_refl _) _ | refine Below.setCell ?_ (by simp <;> omega) _ | refine Below.to ?_ (by assumption) (Nat.le_refl _)))⟩
      · go_wp2_with fail
        refine (rblow_any lo k _ HL.out hk0 hk1).mono ?_
        rw [HNA.out, HDA.out]
        rintro e w1 ⟨rfl, hB1⟩
        have h3 := box_to H3.out hB1
        have d0 := cellOf h3 0
        have d1 := cellOf h3 1
        clear h3
        go_wp2_with fail
        refine (rblow_any up k _ HU.out hk0 hk1).mono ?_
        rw [HNB.out, HDB.out]
        rintro e w2 ⟨rfl, hB2⟩
        go_wp2_with fail
        go_roundw
        case rel => exact ⟨k + 1, by omega, by go_num, fun j hj => by
            rcases Nat.lt_or_ge j k with h | h
            · exact hz.out j h
            · rw [show j = k from by omega, HS2.out]; simp [show ¬ 0 < db by omega], (by repeat (first | exact Below.refl _ _ | assumption | refine Below.drew ?_ | refine Below.drewN ?_ _ | refine Below.allocT ?_ (Nat.le_refl _) _ | refine Below.setCell ?_ (by simp <;> omega) _ | refine Below.to ?_ (by assumption) (Nat.le_refl _)))⟩
        case measure => simp [intOf]; omega
    · go_wp2
      go_ret
      exact ⟨ret_int (leastI_none _ (fun j hj => hz.out j (by omega))).symm, hB0.trans (hB.mono hB0.size)⟩
end Go.Proofs.Ytejjjijaojkohaa
/- Selective: walks; and the law. -/
namespace Go.Proofs.Ytejjjijaojkohaa
open Go.RowKit
set_option linter.unusedVariables false
attribute [local go_sem ↓] Go.wp_at_zero Go.wp_at_succ

def fuseErr (f : Fu) : Int := if f.ok then 0 else 72
theorem checkFuseE (f : Fu) (w : World) : Calls Try.prog 54 #[.agg #[.int .i64 f.rating, .int .i64 f.melt]] w fun e w' => e = .returned (.int .i64 (fuseErr f)) ∧ Below w.heap.size w w' := checkFuse_any f w

theorem two_fuses {w0 w1 : World} {b2 b3 : Nat} {lo up : Fu} (h2 : FuseAt w0 b2 lo) (h3 : FuseAt w0 b3 up) (hB : Below w0.heap.size w0 w1) :
    w1.cell? ⟨b2, 0, none⟩ = some (.int .i64 lo.rating) ∧ w1.cell? ⟨b2, 1, none⟩ = some (.int .i64 lo.melt) ∧ w1.cell? ⟨b3, 0, none⟩ = some (.int .i64 up.rating) ∧ w1.cell? ⟨b3, 1, none⟩ = some (.int .i64 up.melt) ∧ Below w0.heap.size w0 w1 :=
  ⟨cellOf (box_to h2 hB) 0, cellOf (box_to h2 hB) 1, cellOf (box_to h3 hB) 0, cellOf (box_to h3 hB) 1, hB⟩

theorem Selective_any (lo up : Fu) (w : World) :
    Calls Try.prog 24 #[.agg #[.int .i64 lo.rating, .int .i64 lo.melt], .agg #[.int .i64 up.rating, .int .i64 up.melt]] w fun e w' => e = .returned (.tuple #[.int .i64 (selVal lo up), .int .i64 (selErr lo up)]) ∧ Below w.heap.size w w' := by
  obtain ⟨x, hx⟩ : ∃ x, fuseErr lo = x := ⟨_, rfl⟩
  obtain ⟨y, hy⟩ : ∃ y, fuseErr up = y := ⟨_, rfl⟩
  obtain ⟨z, hz⟩ : ∃ z : Int, (if x = 0 then y else x) = z := ⟨_, rfl⟩
  have HX := hide hx
  have HY := hide hy
  have HZ := hide hz
  clear hx hy hz
  go_enter Try.func24, Try.ntmps24
  go_wp2_with fail
  obtain ⟨w0, hw0⟩ : ∃ w0 : World, (w.alloc (.cells #[.int .i64 lo.rating, .int .i64 lo.melt] 30)).alloc (.cells #[.int .i64 up.rating, .int .i64 up.melt] 30) = w0 := ⟨_, rfl⟩
  have hb2 : FuseAt w0 w.heap.size lo := by
    unfold FuseAt; rw [← hw0, heap_old _ _ _ (by simp), heap_new _ _ _ rfl]
  have hb3 : FuseAt w0 (w.heap.size + 1) up := by
    unfold FuseAt; rw [← hw0, heap_new _ _ _ (by simp)]
  have hB0 : Below w.heap.size w w0 := by rw [← hw0]; exact (by repeat (first | exact Below.refl _ _ | assumption | refine Below.drew ?_ | refine Below.drewN ?_ _ | refine Below.allocT ?_ (Nat.le_refl _) _ | refine Below.setCell ?_ (by simp <;> omega) _ | refine Below.to ?_ (by assumption) (Nat.le_refl _)))
  have hs0 : w0.heap.size = w.heap.size + 2 := by rw [← hw0]; simp
  have HB2 := hide hb2
  have HB3 := hide hb3
  rw [hw0]
  obtain ⟨k0, k1, k2, k3, k4⟩ := two_fuses hb2 hb3 (Below.refl _ w0)
  clear hb2 hb3 hw0
  have HS0 := hide hs0
  clear hs0
  go_region_held3 (fun w' => w'.cell? ⟨w.heap.size, 0, none⟩ = some (.int .i64 lo.rating) ∧ w'.cell? ⟨w.heap.size, 1, none⟩ = some (.int .i64 lo.melt) ∧ w'.cell? ⟨w.heap.size + 1, 0, none⟩ = some (.int .i64 up.rating) ∧ w'.cell? ⟨w.heap.size + 1, 1, none⟩ = some (.int .i64 up.melt) ∧ Below w0.heap.size w0 w')
    (exact two_fuses HB2.out HB3.out (by repeat (first | exact Below.refl _ _ | assumption | refine Below.drew ?_ | refine Below.drewN ?_ _ | refine Below.allocT ?_ (Nat.le_refl _) _ | refine Below.setCell ?_ (by simp <;> omega) _ | refine Below.to ?_ (by assumption) (Nat.le_refl _))))
    (first | (go_at_call 54; refine (checkFuseE _ _).mono ?_; (first | rw [HX.out] | rw [HY.out]); rintro e w1 ⟨rfl, hB⟩)
           | (go_at_call 58; refine (errors2v _ x y z _ (by simp) (by simp) HZ.out).mono ?_; rintro e w1 ⟨rfl, rfl⟩))
  rename_i hHeld
  obtain ⟨j0, j1, j2, j3, j4⟩ := hHeld
  have HJ4 := hide j4
  clear j4 k0 k1 k2 k3 k4
  by_cases hz0 : z = 0
  · have hok : lo.ok = true ∧ up.ok = true := by
      have h1 := HX.out
      have h2 := HY.out
      have h3 := HZ.out
      unfold fuseErr at h1 h2
      cases hl : lo.ok <;> cases hu : up.ok <;> simp [hl, hu] at h1 h2 <;> subst h1 <;> subst h2 <;> simp_all
    have hz1 : (z != 0) = false := by simp [hz0]
    have HZ0 := hide hz0
    clear hz0
    have HOK := hide hok
    clear hok
    go_wp2_with (go_at_call 63; refine (selective_any lo up _ (Fu.ok_iff.1 HOK.out.1) (Fu.ok_iff.1 HOK.out.2)).mono ?_; rintro e w3 ⟨rfl, hB3⟩)
    go_ret2
    exact ⟨by simp [selVal, selErr, HOK.out.1, HOK.out.2], Below.to (Below.to hB0 HJ4.out (Nat.le_refl _)) hB3 (Nat.le_refl _)⟩
  · have hok : ¬ (lo.ok = true ∧ up.ok = true) := by
      have h1 := HX.out
      have h2 := HY.out
      have h3 := HZ.out
      rintro ⟨hl, hu⟩
      unfold fuseErr at h1 h2
      simp [hl, hu] at h1 h2
      subst h1; subst h2
      simp at h3
      exact hz0 h3.symm
    have hz2 : z = 72 := by
      have h1 := HX.out
      have h2 := HY.out
      have h3 := HZ.out
      unfold fuseErr at h1 h2
      cases hl : lo.ok <;> cases hu : up.ok <;> simp [hl, hu] at h1 h2 <;> subst h1 <;> subst h2 <;> simp_all
    have hz1 : (z != 0) = true := by simp [hz0]
    have HZ2 := hide hz2
    clear hz0 hz2
    have HOK := hide hok
    clear hok
    go_wp2
    go_ret2
    refine ⟨?_, Below.to hB0 HJ4.out (Nat.le_refl _)⟩
    have hno : (lo.ok && up.ok) = false := by
      have := HOK.out
      cases hl : lo.ok <;> cases hu : up.ok <;> simp_all
    simp [selVal, selErr, hno, HZ2.out]

theorem rSelective_any (lo up : Fu) (w : World) :
    Calls Try.prog 25 #[.agg #[.int .i64 lo.rating, .int .i64 lo.melt], .agg #[.int .i64 up.rating, .int .i64 up.melt]] w fun e w' => e = .returned (.tuple #[.int .i64 (selVal lo up), .int .i64 (selErr lo up)]) ∧ Below w.heap.size w w' := by
  cases hl : lo.ok with
  | false =>
    go_enter Try.func25, Try.ntmps25
    go_wp2_with (go_at_call 56; refine (fuse_any lo _).mono ?_; rw [hl]; rintro e w1 ⟨rfl, hB1⟩)
    go_ret2
    exact ⟨by simp [selVal, selErr, hl], (by repeat (first | exact Below.refl _ _ | assumption | refine Below.drew ?_ | refine Below.drewN ?_ _ | refine Below.allocT ?_ (Nat.le_refl _) _ | refine Below.setCell ?_ (by simp <;> omega) _ | refine Below.to ?_ (by assumption) (Nat.le_refl _)))⟩
  | true =>
    cases hu : up.ok with
    | false =>
      go_enter Try.func25, Try.ntmps25
      go_wp2_with fail
      obtain ⟨w0, hw0⟩ : ∃ w0 : World, (w.alloc (.cells #[.int .i64 lo.rating, .int .i64 lo.melt] 30)).alloc (.cells #[.int .i64 up.rating, .int .i64 up.melt] 30) = w0 := ⟨_, rfl⟩
      have hb2 : FuseAt w0 w.heap.size lo := by
        unfold FuseAt; rw [← hw0, heap_old _ _ _ (by simp), heap_new _ _ _ rfl]
      have hb3 : FuseAt w0 (w.heap.size + 1) up := by
        unfold FuseAt; rw [← hw0, heap_new _ _ _ (by simp)]
      have hB0 : Below w.heap.size w w0 := by rw [← hw0]; exact (by repeat (first | exact Below.refl _ _ | assumption | refine Below.drew ?_ | refine Below.drewN ?_ _ | refine Below.allocT ?_ (Nat.le_refl _) _ | refine Below.setCell ?_ (by simp <;> omega) _ | refine Below.to ?_ (by assumption) (Nat.le_refl _)))
      have HB2 := hide hb2
      have HB3 := hide hb3
      rw [hw0]
      clear hb2 hb3 hw0
      refine (fuse_any lo _).mono ?_
      rw [hl]
      rintro e w1 ⟨rfl, hB1⟩
      obtain ⟨d0, d1, d2, d3, _⟩ := two_fuses HB2.out HB3.out hB1
      go_wp2_with fail
      refine (fuse_any up _).mono ?_
      rw [hu]
      rintro e w2 ⟨rfl, hB2⟩
      go_wp2_with fail
      go_ret2
      exact ⟨by simp [selVal, selErr, hl, hu], (by repeat (first | exact Below.refl _ _ | assumption | refine Below.drew ?_ | refine Below.drewN ?_ _ | refine Below.allocT ?_ (Nat.le_refl _) _ | refine Below.setCell ?_ (by simp <;> omega) _ | refine Below.to ?_ (by assumption) (Nat.le_refl _)))⟩
    | true =>
      have HOL := hide (Fu.ok_iff.1 hl)
      have HOU := hide (Fu.ok_iff.1 hu)
      go_enter Try.func25, Try.ntmps25
      go_wp2_with fail
      obtain ⟨w0, hw0⟩ : ∃ w0 : World, (w.alloc (.cells #[.int .i64 lo.rating, .int .i64 lo.melt] 30)).alloc (.cells #[.int .i64 up.rating, .int .i64 up.melt] 30) = w0 := ⟨_, rfl⟩
      have hb2 : FuseAt w0 w.heap.size lo := by
        unfold FuseAt; rw [← hw0, heap_old _ _ _ (by simp), heap_new _ _ _ rfl]
      have hb3 : FuseAt w0 (w.heap.size + 1) up := by
        unfold FuseAt; rw [← hw0, heap_new _ _ _ (by simp)]
      have hB0 : Below w.heap.size w w0 := by rw [← hw0]; exact (by repeat (first | exact Below.refl _ _ | assumption | refine Below.drew ?_ | refine Below.drewN ?_ _ | refine Below.allocT ?_ (Nat.le_refl _) _ | refine Below.setCell ?_ (by simp <;> omega) _ | refine Below.to ?_ (by assumption) (Nat.le_refl _)))
      have HB2 := hide hb2
      have HB3 := hide hb3
      rw [hw0]
      clear hb2 hb3 hw0
      refine (fuse_any lo _).mono ?_
      rw [hl]
      rintro e w1 ⟨rfl, hB1⟩
      obtain ⟨d0, d1, d2, d3, _⟩ := two_fuses HB2.out HB3.out hB1
      go_wp2_with fail
      refine (fuse_any up _).mono ?_
      rw [hu]
      rintro e w2 ⟨rfl, hB2⟩
      obtain ⟨e0, e1, e2, e3, _⟩ := two_fuses HB2.out HB3.out (Below.to hB1 hB2 (Nat.le_refl _))
      go_wp2_with (go_at_call 64; refine (rselective_any lo up _ HOL.out HOU.out).mono ?_; rintro e w3 ⟨rfl, hB3⟩)
      go_ret2
      exact ⟨by simp [selVal, selErr, hl, hu], (by repeat (first | exact Below.refl _ _ | assumption | refine Below.drew ?_ | refine Below.drewN ?_ _ | refine Below.allocT ?_ (Nat.le_refl _) _ | refine Below.setCell ?_ (by simp <;> omega) _ | refine Below.to ?_ (by assumption) (Nat.le_refl _)))⟩
end Go.Proofs.Ytejjjijaojkohaa
/- Fuses that hold: the plain law and both walks. -/
namespace Go.Proofs.Ytejjjijaojkohaa
open Go.RowKit
set_option linter.unusedVariables false

theorem stU_addN (f : Int → Int → Int) (cs : List Cu) (r : Int) : ∀ t, stU f cs r (secsN cs + t) = stU f cs (cySt f cs r) t
  | 0 => rfl
  | t + 1 => by
    rw [← Nat.add_assoc, stU_succ, stU_succ, stU_addN f cs r t]
    unfold ampAt
    rw [Nat.add_mod_left]

/-- What one cycle would add to the heat if it could fall below zero. -/
def sumU (f : Fu) (cs : List Cu) : Nat → Int
  | 0 => 0
  | s + 1 => sumU f cs s + ampAt cs s * ampAt cs s - f.rating * f.rating
theorem stU_shift (f : Fu) (cs : List Cu) {h : Int} (hh : 0 ≤ h) : ∀ s, stU (heatI f) cs h s = max (h + sumU f cs s) (stU (heatI f) cs 0 s)
  | 0 => by rw [stU_zero, stU_zero]; unfold sumU; omega
  | s + 1 => by
    rw [stU_succ, stU_succ, stU_shift f cs hh s]
    obtain ⟨u, hu⟩ : ∃ u, stU (heatI f) cs 0 s = u := ⟨_, rfl⟩
    rw [hu, show sumU f cs (s + 1) = sumU f cs s + ampAt cs s * ampAt cs s - f.rating * f.rating from rfl]
    unfold heatI
    omega
theorem stH_nonneg (f : Fu) (cs : List Cu) {h : Int} (hh : 0 ≤ h) : ∀ s, 0 ≤ stU (heatI f) cs h s
  | 0 => hh
  | s + 1 => by rw [stU_succ]; unfold heatI; omega

/-- A fuse never opens under a cycle. -/
def holdsB (f : Fu) (cs : List Cu) : Bool := decide (cyMx (heatI f) cs (stU (heatI f) cs 0 (2 * secsN cs)) < f.melt) && decide (cySt (heatI f) cs (stU (heatI f) cs 0 (2 * secsN cs)) = stU (heatI f) cs 0 (2 * secsN cs))

theorem st_two (f : Fu) (cs : List Cu) : stU (heatI f) cs 0 (2 * secsN cs) = cySt (heatI f) cs (cySt (heatI f) cs 0) := by
  rw [Nat.two_mul, stU_addN]; rfl
theorem cyH (f : Fu) (cs : List Cu) {h : Int} (hh : 0 ≤ h) : cySt (heatI f) cs h = max (h + sumU f cs (secsN cs)) (cySt (heatI f) cs 0) := stU_shift f cs hh _
theorem holds_sum {f : Fu} {cs : List Cu} (h : 0 < sumU f cs (secsN cs)) : holdsB f cs = false := by
  have h0 := cyH f cs (h := 0) (by omega)
  have hc : 0 ≤ cySt (heatI f) cs 0 := stH_nonneg f cs (by omega) _
  have h1 := cyH f cs hc
  have h2 := cyH f cs (h := cySt (heatI f) cs (cySt (heatI f) cs 0)) (stH_nonneg f cs hc _)
  unfold holdsB
  rw [st_two]
  have : ¬ (cySt (heatI f) cs (cySt (heatI f) cs (cySt (heatI f) cs 0)) = cySt (heatI f) cs (cySt (heatI f) cs 0)) := by omega
  simp [this]
theorem cy_stays {f : Fu} {cs : List Cu} (h : sumU f cs (secsN cs) ≤ 0) : cySt (heatI f) cs (cySt (heatI f) cs 0) = cySt (heatI f) cs 0 := by
  have hc : 0 ≤ cySt (heatI f) cs 0 := stH_nonneg f cs (by omega) _
  have h1 := cyH f cs hc
  omega
theorem holds_melts {f : Fu} {cs : List Cu} (h : sumU f cs (secsN cs) ≤ 0) {s : Nat} (hs : s < 2 * secsN cs) (hm : f.melt ≤ stU (heatI f) cs 0 (s + 1)) : holdsB f cs = false := by
  have h1 := cy_stays h
  have hc : 0 ≤ cySt (heatI f) cs 0 := stH_nonneg f cs (by omega) _
  have h2 : f.melt ≤ cyMx (heatI f) cs (cySt (heatI f) cs 0) := by
    rcases Nat.lt_or_ge (secsN cs) (s + 1) with hlt | hge
    · obtain ⟨t, ht⟩ : ∃ t, s + 1 = secsN cs + t := ⟨s + 1 - secsN cs, by omega⟩
      rw [ht, stU_addN] at hm
      exact Int.le_trans hm (st_le_mxU' _ _ _ (by omega))
    · have h3 := stU_mono (heatI_mono f) (cs := cs) hc (s + 1)
      exact Int.le_trans (Int.le_trans hm h3) (st_le_mxU' _ _ _ hge)
  unfold holdsB
  rw [st_two, h1]
  have : ¬ (cyMx (heatI f) cs (cySt (heatI f) cs 0) < f.melt) := by omega
  simp [this]
theorem holds_cool {f : Fu} {cs : List Cu} (h : sumU f cs (secsN cs) ≤ 0) (hN : 1 ≤ secsN cs) (hm : ∀ s : Nat, s < 2 * secsN cs → stU (heatI f) cs 0 (s + 1) < f.melt) : holdsB f cs = true := by
  have h1 := cy_stays h
  have h2 : ∀ t, t ≤ secsN cs → mxU (heatI f) cs (cySt (heatI f) cs 0) t < f.melt := by
    intro t
    induction t with
    | zero =>
      intro _
      rw [mxU_zero]
      have := hm (secsN cs - 1) (by omega)
      rwa [show secsN cs - 1 + 1 = secsN cs by omega] at this
    | succ t ih =>
      intro ht
      have h3 := ih (by omega)
      have h4 := hm (secsN cs + t) (by omega)
      rw [Nat.add_assoc, stU_addN] at h4
      rw [mxU_succ]
      omega
  have h3 := h2 (secsN cs) (Nat.le_refl _)
  unfold holdsB
  rw [st_two, h1, h1]
  have : cyMx (heatI f) cs (cySt (heatI f) cs 0) < f.melt := h3
  simp [this]
theorem stH_range {f : Fu} (hf : f.Ok) {cs : List Cu} (hok : cycOk cs = true) {r : Int} (hr : 0 ≤ r) (s : Nat) : 0 ≤ stU (heatI f) cs r s ∧ stU (heatI f) cs r s ≤ r + 250000 * s := by
  induction s with
  | zero => rw [stU_zero]; omega
  | succ s ih =>
    rw [stU_succ]
    have ha := ampAt_range hok s
    have := heatI_range f (stU (heatI f) cs r s) (ampAt cs s) hf.rating0 hf.rating1 ih.1 ha.1 ha.2
    omega
theorem sumU_range {f : Fu} (hf : f.Ok) {cs : List Cu} (hok : cycOk cs = true) (s : Nat) : -250000 * s ≤ sumU f cs s ∧ sumU f cs s ≤ 250000 * s := by
  induction s with
  | zero => unfold sumU; omega
  | succ s ih =>
    have ha := ampAt_range hok s
    obtain ⟨p1, p2⟩ := mul_range ha.1 ha.2 ha.1 ha.2
    obtain ⟨p3, p4⟩ := mul_range hf.rating0 hf.rating1 hf.rating0 hf.rating1
    unfold sumU
    omega

set_option maxRecDepth 100000 in
set_option maxHeartbeats 4000000 in
theorem holds_any (f : Fu) (v : Value) (cs : List Cu) (w : World) (hf : f.Ok) (hok : cycOk cs = true) (h : Cyc w w.heap.size v cs) :
    Calls Try.prog 60 #[.agg #[.int .i64 f.rating, .int .i64 f.melt], v] w fun e w' => e = .returned (.bool (holdsB f cs)) ∧ Below w.heap.size w w' := by
  have H := hide h
  obtain ⟨A0, cap0, rfl⟩ := h.form
  clear h
  have HF := hide hf
  have HOK := hide hok
  have hN := secsN_le hok
  have hN1 := secsN_pos hok
  clear hf hok
  have hq : (2 * (secsN cs : Int)).toNat = 2 * secsN cs := by omega
  go_enter Try.func60, Try.ntmps60
  go_wp2_with fail
  obtain ⟨w0, hw0⟩ : ∃ w0 : World, (w.alloc (.cells #[.int .i64 f.rating, .int .i64 f.melt] 30)).alloc (.cells #[.int .i64 f.rating, .int .i64 f.melt, .int .i64 0] 119) = w0 := ⟨_, rfl⟩
  have hf0 : FuseAt w0 w.heap.size f := by unfold FuseAt; rw [← hw0, heap_old _ _ _ (by simp), heap_new _ _ _ rfl]
  have hl0 : LinkAt w0 (w.heap.size + 1) f 0 := by unfold LinkAt; rw [← hw0, heap_new _ _ _ (by simp)]
  have hB0 : Below w.heap.size w w0 := by rw [← hw0]; exact (by repeat (first | exact Below.refl _ _ | assumption | refine Below.drew ?_ | refine Below.drewN ?_ _ | refine Below.allocT ?_ (Nat.le_refl _) _ | refine Below.setCell ?_ (by simp <;> omega) _ | refine Below.to ?_ (by assumption) (Nat.le_refl _)))
  have hs0 : w0.heap.size = w.heap.size + 2 := by rw [← hw0]; simp
  have HF0 := hide hf0
  have HL0 := hide hl0
  have HB0 := hide hB0
  rw [hw0]
  clear hf0 hl0 hw0 hB0
  refine (long_any _ cs _ HOK.out ((H.out.below HB0.out).more (by omega))).mono ?_
  rintro e w1 ⟨rfl, hB1⟩
  have HB1 := hide hB1
  clear hB1
  have HL1 : Hid (LinkAt w1 (w.heap.size + 1) f 0) := box_to HL0.out HB1.out
  have HF1 : Hid (FuseAt w1 w.heap.size f) := box_to HF0.out HB1.out
  have HW1 : Hid (Below w.heap.size w w1) := Below.to HB0.out HB1.out (by omega)
  have hs1 : w.heap.size + 2 ≤ w1.heap.size := by have := HB1.out.size; omega
  have HC1 : Hid (Cyc w1 (w.heap.size + 1) (.slice A0 cs.length cap0) cs) := (H.out.below HW1.out).more (by omega)
  clear hs0
  go_wp2_with fail
  refine (runLink_any (w.heap.size + 1) f 0 (2 * (secsN cs : Int)) _ cs w1 HL1.out (by omega) HOK.out HC1.out (by omega) (by omega) HF.out.rating0 HF.out.rating1 (by omega) (by omega)).mono ?_
  rw [hq]
  rintro e w2 ⟨rfl, hl2, hg2⟩
  have hst := stH_range HF.out HOK.out (Int.le_refl 0) (2 * secsN cs)
  obtain ⟨x, hx⟩ : ∃ x, stU (heatI f) cs 0 (2 * secsN cs) = x := ⟨_, rfl⟩
  rw [show runSt (heatI f) 0 (ups cs (2 * secsN cs)) = x from hx] at hl2
  rw [hx] at hst
  obtain ⟨hx0, hx1⟩ := hst
  have HX := hide hx
  have HL2 := hide hl2
  have HG2 := hide hg2
  have c0 : w2.cell? ⟨w.heap.size + 1, 2, none⟩ = some (.int .i64 x) := cellOf hl2 2
  clear hx hl2 hg2
  have hs2 : w1.heap.size ≤ w2.heap.size := HG2.out.size
  have HW2 : Hid (Below w.heap.size w w2) := below_only HW1.out HG2.out (by omega)
  have HF2 : Hid (FuseAt w2 w.heap.size f) := (HG2.out.block _ (by omega) (by intro e; injection e; omega)).trans HF1.out
  have HC2 : Hid (Cyc w2 (w.heap.size + 1) (.slice A0 cs.length cap0) cs) := HC1.out.grown HG2.out (by omega)
  have d0 := cellOf HF2.out 0
  have d1 : w2.cell? ⟨w.heap.size, 1, none⟩ = some (.int .i64 f.melt) := cellOf HF2.out 1
  go_wp2_with fail
  obtain ⟨mx, hmx⟩ : ∃ mx, cyMx (heatI f) cs x = mx := ⟨_, rfl⟩
  obtain ⟨y, hy⟩ : ∃ y, cySt (heatI f) cs x = y := ⟨_, rfl⟩
  have HMX := hide hmx
  have HY := hide hy
  have HB : Hid (holdsB f cs = (decide (mx < f.melt) && decide (y = x))) := by
    show _ = _
    unfold holdsB
    rw [HX.out, HMX.out, HY.out]
  clear hmx hy
  have hrun : ∀ w', w' = w2.drew → Calls Try.prog 65 #[.iface 117 (.pointer (some ⟨w.heap.size + 1, 0, none⟩)), .slice A0 cs.length cap0, .int .i64 (secsN cs : Int)] w' fun e w'' => e = .returned (.int .i64 mx) ∧ (w''.cell? ⟨w.heap.size, 1, none⟩ = some (.int .i64 f.melt) ∧ w''.cell? ⟨w.heap.size + 1, 2, none⟩ = some (.int .i64 y)) ∧ Below w.heap.size w w'' := by
    rintro _ rfl
    refine (runLink_any (w.heap.size + 1) f x (secsN cs : Int) _ cs w2.drew HL2.out (show w.heap.size + 1 < w2.heap.size by omega) HOK.out (HC2.out.below (Below.drew (Below.refl _ _))) (by omega) (by omega) HF.out.rating0 HF.out.rating1 hx0 (by omega)).mono ?_
    rw [Int.toNat_natCast]
    rintro e w3 ⟨rfl, hl3, hg3⟩
    refine ⟨ret_int HMX.out, ⟨cellOf ((hg3.block _ (show w.heap.size < w2.heap.size by omega) (by intro e; injection e; omega)).trans HF2.out) 1, ?_⟩, below_only (Below.drew HW2.out) hg3 (by omega)⟩
    rw [show runSt (heatI f) x (ups cs (secsN cs)) = y from HY.out] at hl3
    exact cellOf hl3 2
  have HRUN := hide hrun
  clear hrun
  clear d0
  by_cases hm : mx < f.melt
  · have hyx1 : (y == x) = decide (y = x) := by by_cases h : y = x <;> simp [h]
    go_region_with (go_at_call 65; refine (HRUN.out _ rfl).mono ?_; rintro e w3 ⟨rfl, ⟨hc3, hc4⟩, hB3⟩)
    all_goals
      go_wp2_with fail
      go_ret
      exact ⟨ret_bool (by rw [HB.out]; simp [hm]), hB3⟩
  · have HM := hide hm
    have hm3 : decide (mx < f.melt) = false := by simpa using hm
    first
      | go_region_with (go_at_call 65; refine (HRUN.out _ rfl).mono ?_; rintro e w3 ⟨rfl, ⟨hc3, hc4⟩, hB3⟩)
      | fail
    all_goals
      go_wp2_with fail
      go_ret
      exact ⟨ret_bool (by rw [HB.out, show decide (mx < f.melt) = false from by simpa using HM.out]; rfl), hB3⟩
end Go.Proofs.Ytejjjijaojkohaa
/- Fuses that hold: the reference's walk; Holds. -/
namespace Go.Proofs.Ytejjjijaojkohaa
open Go.RowKit
set_option linter.unusedVariables false

set_option maxRecDepth 100000 in
set_option maxHeartbeats 2000000 in
theorem rholds_any (f : Fu) (v : Value) (cs : List Cu) (w : World) (hf : f.Ok) (hok : cycOk cs = true) (h : Cyc w w.heap.size v cs) :
    Calls Try.prog 62 #[.agg #[.int .i64 f.rating, .int .i64 f.melt], v] w fun e w' => e = .returned (.bool (holdsB f cs)) ∧ Below w.heap.size w w' := by
  have H := hide h
  obtain ⟨A0, cap0, rfl⟩ := h.form
  clear h
  have HF := hide hf
  have HOK := hide hok
  obtain ⟨p3, p4⟩ := mul_range hf.rating0 hf.rating1 hf.rating0 hf.rating1
  have hm0 := hf.melt0
  have hm1 := hf.melt1
  clear hf hok
  go_enter Try.func62, Try.ntmps62
  go_wp2_with fail
  refine (seconds_any _ cs _ HOK.out ((H.out.below (by repeat (first | exact Below.refl _ _ | assumption | refine Below.drew ?_ | refine Below.drewN ?_ _ | refine Below.allocT ?_ (Nat.le_refl _) _ | refine Below.setCell ?_ (by simp <;> omega) _ | refine Below.to ?_ (by assumption) (Nat.le_refl _)))).more (by simp))).mono ?_
  rintro e w3 ⟨v3, rfl, hown, hB3⟩
  have hGb := box_at hB3
  have hW3 : Below w.heap.size w w3 := (by repeat (first | exact Below.refl _ _ | assumption | refine Below.drew ?_ | refine Below.drewN ?_ _ | refine Below.allocT ?_ (Nat.le_refl _) _ | refine Below.setCell ?_ (by simp <;> omega) _ | refine Below.to ?_ (by assumption) (Nat.le_refl _)))
  have hs3 := box_lt hGb
  have hposN := secsN_pos HOK.out
  have hleN := secsN_le HOK.out
  obtain ⟨A, b, off, cap, hv3, hcp, hA, hc⟩ := Ints.of_owns hown
  have HC := hide hc; clear hc
  have HA := hide hA; clear hA
  have HGB := hide hGb; clear hGb
  rw [hv3]
  clear hB3 hv3 hcp hown
  go_wp2
  go_loopw [6, 7] (fun sum s wr => ∃ (k : Nat) (x : Int), k ≤ secsN cs ∧ s = .int .i64 k ∧ sum = .int .i64 x ∧ Hid (sumU f cs k = x) ∧ Below w3.heap.size w3 wr) (fun _ s _ => secsN cs - (intOf s).toNat)
  case atStart => exact ⟨0, 0, Nat.zero_le _, rfl, rfl, rfl, Below.refl _ _⟩
  case round =>
    obtain ⟨k, x, hk, rfl, rfl, hx, hB⟩ := hrel
    have hxr := sumU_range HF.out HOK.out k
    rw [hx.out] at hxr
    obtain ⟨hx0, hx1⟩ := hxr
    by_cases hlt : k < secsN cs
    · obtain ⟨z, hz, hA1, hA2, hcz⟩ := intAt (k := k) hB HA.out HC.out hlt
      subst hA1
      have hGr := (hB.block _ hs3).trans HGB.out
      have q0 := cellOf hGr 0
      clear hGr
      have hz2 : ampAt cs k = z := (ampAt_lt hlt).trans hz.out
      have hzr := ampAt_range HOK.out k
      rw [hz2] at hzr
      obtain ⟨hz3, hz4⟩ := hzr
      have HZ2 := hide hz2
      clear hz2
      obtain ⟨p1, p2⟩ := mul_range hz3 hz4 hz3 hz4
      go_wp2
      go_region
      go_wp2
      go_roundw
      case rel => exact ⟨k + 1, x + z * z - f.rating * f.rating, by omega, by go_num, congrArg (Value.int IntKind.i64) (by first | rfl | omega), (by show _ = _; rw [show sumU f cs (k + 1) = sumU f cs k + ampAt cs k * ampAt cs k - f.rating * f.rating from rfl, hx.out, HZ2.out]), (by repeat (first | exact Below.refl _ _ | assumption | refine Below.drew ?_ | refine Below.drewN ?_ _ | refine Below.allocT ?_ (Nat.le_refl _) _ | refine Below.setCell ?_ (by simp <;> omega) _ | refine Below.to ?_ (by assumption) (Nat.le_refl _)))⟩
      case measure => simp [intOf]; omega
    · have hkN : k = secsN cs := by omega
      subst hkN
      by_cases hpos : 0 < x
      · go_wp2
        go_ret
        exact ⟨ret_bool (holds_sum (by rw [hx.out]; exact hpos)).symm, hW3.trans (hB.mono hW3.size)⟩
      · have hle : x ≤ 0 := by omega
        have HLE := hide (show sumU f cs (secsN cs) ≤ 0 by rw [hx.out]; exact hle)
        go_wp2
        obtain ⟨wo, hwo⟩ : ∃ wo : World, wo = wr := ⟨_, rfl⟩
        go_loopw [8, 9, 10] (fun heat s _ wr => ∃ (k : Nat) (x : Int), k ≤ 2 * secsN cs ∧ s = .int .i64 k ∧ heat = .int .i64 x ∧ Hid (stU (heatI f) cs 0 k = x) ∧ 0 ≤ x ∧ x < f.melt ∧ Hid (∀ j : Nat, j < k → stU (heatI f) cs 0 (j + 1) < f.melt) ∧ Below w3.heap.size w3 wr) (fun _ s _ _ => 2 * secsN cs - (intOf s).toNat)
        case atStart => exact ⟨0, 0, Nat.zero_le _, rfl, rfl, rfl, by omega, by omega, fun j hj => absurd hj (by omega), hB⟩
        case round =>
          obtain ⟨k, y, hk, rfl, rfl, hy, hy0, hy1, hall, hB2⟩ := hrel
          by_cases hlt : k < 2 * secsN cs
          · obtain ⟨p, hp, hpl, htm, hN0⟩ : ∃ p, Hid (k % secsN cs = p) ∧ p < secsN cs ∧ Int.tmod (k : Int) (secsN cs : Int) = (p : Int) ∧ ¬ secsN cs = 0 :=
              ⟨_, rfl, Nat.mod_lt _ hposN, by rw [Int.tmod_eq_emod_of_nonneg (by omega)]; rfl, by omega⟩
            obtain ⟨z, hz, hA1, hA2, hcz⟩ := intAt (k := p) hB2 HA.out HC.out hpl
            subst hA1
            have hGr := (hB2.block _ hs3).trans HGB.out
            have q0 := cellOf hGr 0
            have q1 := cellOf hGr 1
            clear hGr
            have hz2 : ampAt cs k = z := by unfold ampAt; rw [hp.out]; exact hz.out
            have hzr := ampAt_range HOK.out k
            rw [hz2] at hzr
            obtain ⟨hz3, hz4⟩ := hzr
            obtain ⟨p1, p2⟩ := mul_range hz3 hz4 hz3 hz4
            have hst : stU (heatI f) cs 0 (k + 1) = max 0 (y + z * z - f.rating * f.rating) := by rw [stU_succ, hy.out, hz2]; rfl
            have HST := hide hst
            clear hz2 hst
            by_cases hneg : 0 ≤ y + z * z - f.rating * f.rating
            · by_cases hmelt : f.melt ≤ y + z * z - f.rating * f.rating
              · go_wp2
                go_ret
                exact ⟨ret_bool (holds_melts HLE.out hlt (by rw [HST.out]; omega)).symm, hW3.trans (hB2.mono hW3.size)⟩
              · go_wp2
                go_roundw
                case rel => exact ⟨k + 1, y + z * z - f.rating * f.rating, by omega, by go_num, congrArg (Value.int IntKind.i64) (by first | rfl | omega | (split <;> omega)), (by show _ = _; rw [HST.out]; omega), hneg, by omega, (fun j hj => by
                    rcases Nat.lt_or_ge j k with h | h
                    · exact hall.out j h
                    · rw [show j = k from by omega, HST.out]; omega), hB2⟩
                case measure => simp [intOf]; omega
            · go_wp2
              go_roundw
              case rel => exact ⟨k + 1, 0, by omega, by go_num, congrArg (Value.int IntKind.i64) (by first | rfl | omega | (split <;> omega)), (by show _ = _; rw [HST.out]; omega), by omega, by omega, (fun j hj => by
                    rcases Nat.lt_or_ge j k with h | h
                    · exact hall.out j h
                    · rw [show j = k from by omega, HST.out]; omega), hB2⟩
              case measure => simp [intOf]; omega
          · go_wp2
            go_ret
            exact ⟨ret_bool (holds_cool HLE.out hposN (fun s hs => hall.out s (by omega))).symm, hW3.trans (hB2.mono hW3.size)⟩
end Go.Proofs.Ytejjjijaojkohaa
/- Holds: both walks. -/
namespace Go.Proofs.Ytejjjijaojkohaa
open Go.RowKit
set_option linter.unusedVariables false

def holdsErr (f : Fu) (cs : List Cu) : Int := if f.ok then if cycOk cs then 0 else 71 else 72
def holdsVal (f : Fu) (cs : List Cu) : Bool := f.ok && cycOk cs && holdsB f cs
theorem fuse2 {w0 w1 : World} {b : Nat} {f : Fu} (h : FuseAt w0 b f) (hB : Below w0.heap.size w0 w1) :
    w1.cell? ⟨b, 0, none⟩ = some (.int .i64 f.rating) ∧ w1.cell? ⟨b, 1, none⟩ = some (.int .i64 f.melt) ∧ Below w0.heap.size w0 w1 :=
  ⟨cellOf (box_to h hB) 0, cellOf (box_to h hB) 1, hB⟩

theorem rHolds_any (f : Fu) (v : Value) (cs : List Cu) (w : World) (hn : cs.length ≤ 20) (h : Cyc w w.heap.size v cs) :
    Calls Try.prog 23 #[.agg #[.int .i64 f.rating, .int .i64 f.melt], v] w fun e w' => e = .returned (.tuple #[.bool (holdsVal f cs), .int .i64 (holdsErr f cs)]) ∧ Below w.heap.size w w' := by
  have H := hide h
  obtain ⟨A0, cap0, rfl⟩ := h.form
  clear h
  by_cases hg : f.ok = true
  · by_cases hok : cycOk cs = true
    · have HG := hide (Fu.ok_iff.1 hg)
      have HOK := hide hok
      go_enter Try.func23, Try.ntmps23
      go_wp2_with (first
          | (go_at_call 56; refine (fuse_any f _).mono ?_; rw [hg]; rintro e w1 ⟨rfl, hB1⟩
             have hW1 : Below w.heap.size w w1 := (by repeat (first | exact Below.refl _ _ | assumption | refine Below.drew ?_ | refine Below.drewN ?_ _ | refine Below.allocT ?_ (Nat.le_refl _) _ | refine Below.setCell ?_ (by simp <;> omega) _ | refine Below.to ?_ (by assumption) (Nat.le_refl _)))
             have H1 : Cyc w1 w1.heap.size (.slice A0 cs.length cap0) cs := (H.out.below hW1).more hW1.size
             have H1 := hide H1
             have hb1 := box_at hB1
             have q10 := cellOf hb1 0; have q11 := cellOf hb1 1; have q1l := box_lt hb1; have q1h := hide hb1; clear hb1)
          | (go_at_call 61; refine (cycled_any _ cs _ hn H1.out).mono ?_; rw [hok]; rintro e w2 ⟨rfl, hB2⟩
             have hW2 : Below w.heap.size w w2 := (by repeat (first | exact Below.refl _ _ | assumption | refine Below.drew ?_ | refine Below.drewN ?_ _ | refine Below.allocT ?_ (Nat.le_refl _) _ | refine Below.setCell ?_ (by simp <;> omega) _ | refine Below.to ?_ (by assumption) (Nat.le_refl _)))
             have H2 : Cyc w2 w2.heap.size (.slice A0 cs.length cap0) cs := (H.out.below hW2).more hW2.size
             have H2 := hide H2
             have hb2 := box_to q1h.out hB2
             have q20 := cellOf hb2 0; have q21 := cellOf hb2 1; have q2l := box_lt hb2; have q2h := hide hb2; clear hb2)
          | (go_at_call 62; refine (rholds_any f _ cs _ HG.out HOK.out H2.out).mono ?_; rintro e w3 ⟨rfl, hB3⟩
             have hW3 : Below w.heap.size w w3 := (by repeat (first | exact Below.refl _ _ | assumption | refine Below.drew ?_ | refine Below.drewN ?_ _ | refine Below.allocT ?_ (Nat.le_refl _) _ | refine Below.setCell ?_ (by simp <;> omega) _ | refine Below.to ?_ (by assumption) (Nat.le_refl _)))))
      go_ret2
      exact ⟨by simp [holdsVal, holdsErr, hg, hok], hW3⟩
    · have hok' : cycOk cs = false := by simpa using hok
      go_enter Try.func23, Try.ntmps23
      go_wp2_with (first
          | (go_at_call 56; refine (fuse_any f _).mono ?_; rw [hg]; rintro e w1 ⟨rfl, hB1⟩
             have hW1 : Below w.heap.size w w1 := (by repeat (first | exact Below.refl _ _ | assumption | refine Below.drew ?_ | refine Below.drewN ?_ _ | refine Below.allocT ?_ (Nat.le_refl _) _ | refine Below.setCell ?_ (by simp <;> omega) _ | refine Below.to ?_ (by assumption) (Nat.le_refl _)))
             have H1 : Cyc w1 w1.heap.size (.slice A0 cs.length cap0) cs := (H.out.below hW1).more hW1.size
             have H1 := hide H1)
          | (go_at_call 61; refine (cycled_any _ cs _ hn H1.out).mono ?_; rw [hok']; rintro e w2 ⟨rfl, hB2⟩
             have hW2 : Below w.heap.size w w2 := (by repeat (first | exact Below.refl _ _ | assumption | refine Below.drew ?_ | refine Below.drewN ?_ _ | refine Below.allocT ?_ (Nat.le_refl _) _ | refine Below.setCell ?_ (by simp <;> omega) _ | refine Below.to ?_ (by assumption) (Nat.le_refl _)))))
      go_ret2
      exact ⟨by simp [holdsVal, holdsErr, hg, hok], hW2⟩
  · have hg' : f.ok = false := by simpa using hg
    go_enter Try.func23, Try.ntmps23
    go_wp2_with (go_at_call 56; refine (fuse_any f _).mono ?_; rw [hg']; rintro e w1 ⟨rfl, hB1⟩
                 have hW1 : Below w.heap.size w w1 := (by repeat (first | exact Below.refl _ _ | assumption | refine Below.drew ?_ | refine Below.drewN ?_ _ | refine Below.allocT ?_ (Nat.le_refl _) _ | refine Below.setCell ?_ (by simp <;> omega) _ | refine Below.to ?_ (by assumption) (Nat.le_refl _))))
    go_ret2
    exact ⟨by simp [holdsVal, holdsErr, hg], hW1⟩

theorem Holds_any (f : Fu) (v : Value) (cs : List Cu) (w : World) (hn : cs.length ≤ 20) (h : Cyc w w.heap.size v cs) :
    Calls Try.prog 21 #[.agg #[.int .i64 f.rating, .int .i64 f.melt], v] w fun e w' => e = .returned (.tuple #[.bool (holdsVal f cs), .int .i64 (holdsErr f cs)]) ∧ Below w.heap.size w w' := by
  have H := hide h
  obtain ⟨A0, cap0, rfl⟩ := h.form
  clear h
  obtain ⟨fe, hfe⟩ : ∃ x, fuseErr f = x := ⟨_, rfl⟩
  obtain ⟨ce, hce⟩ : ∃ x, cycErr cs = x := ⟨_, rfl⟩
  obtain ⟨z, hz⟩ : ∃ z : Int, (if fe = 0 then ce else fe) = z := ⟨_, rfl⟩
  have HE : Hid (z = holdsErr f cs) := by
    show _ = _
    rw [← hz, ← hfe, ← hce]
    unfold fuseErr cycErr holdsErr
    cases f.ok <;> cases cycOk cs <;> simp
  have HFE := hide hfe
  have HCE := hide hce
  have HZ := hide hz
  clear hfe hce hz
  by_cases hz0 : z = 0
  · have hok : f.ok = true ∧ cycOk cs = true := by
      have h1 := HE.out
      rw [hz0] at h1
      unfold holdsErr at h1
      cases hl : f.ok <;> cases hu : cycOk cs <;> simp [hl, hu] at h1 ⊢
    have hz1 : (z != 0) = false := by simp [hz0]
    have HG := hide (Fu.ok_iff.1 hok.1)
    have HOK := hide hok.2
    have HOF := hide hok.1
    have HZ0 := hide hz0
    clear hz0 hok
    go_enter Try.func21, Try.ntmps21
    go_wp2_with (first
          | (go_at_call 54; refine (checkFuseE f _).mono ?_; rw [HFE.out]; rintro e w1 ⟨rfl, hB1⟩
             have hW1 : Below w.heap.size w w1 := (by repeat (first | exact Below.refl _ _ | assumption | refine Below.drew ?_ | refine Below.drewN ?_ _ | refine Below.allocT ?_ (Nat.le_refl _) _ | refine Below.setCell ?_ (by simp <;> omega) _ | refine Below.to ?_ (by assumption) (Nat.le_refl _)))
             have H1 : Cyc w1 w1.heap.size (.slice A0 cs.length cap0) cs := (H.out.below hW1).more hW1.size
             have H1 := hide H1
             have hb1 := box_at hB1
             have q10 := cellOf hb1 0; have q11 := cellOf hb1 1; have q1l := box_lt hb1; have q1h := hide hb1; clear hb1)
          | (go_at_call 59; refine (checkCycle_any _ cs _ hn H1.out).mono ?_; rw [HCE.out]; rintro e w2 ⟨rfl, hB2⟩
             have hW2 : Below w.heap.size w w2 := (by repeat (first | exact Below.refl _ _ | assumption | refine Below.drew ?_ | refine Below.drewN ?_ _ | refine Below.allocT ?_ (Nat.le_refl _) _ | refine Below.setCell ?_ (by simp <;> omega) _ | refine Below.to ?_ (by assumption) (Nat.le_refl _)))
             have H2 : Cyc w2 w2.heap.size (.slice A0 cs.length cap0) cs := (H.out.below hW2).more hW2.size
             have H2 := hide H2
             have hb2 := box_to q1h.out hB2
             have q20 := cellOf hb2 0; have q21 := cellOf hb2 1; have q2l := box_lt hb2; have q2h := hide hb2; clear hb2)
          | (go_at_call 58; refine (errors2v _ fe ce z _ (by simp) (by simp) HZ.out).mono ?_; rintro e w3 ⟨rfl, rfl⟩))
    refine (holds_any f _ cs _ HG.out HOK.out ((H2.out.below (Below.allocT (Below.refl _ _) (Nat.le_refl _) _)).more (by simp))).mono ?_
    rintro e w5 ⟨rfl, hB5⟩
    go_wp2
    go_ret2
    exact ⟨by simp [holdsVal, holdsErr, HOF.out, HOK.out], (by repeat (first | exact Below.refl _ _ | assumption | refine Below.drew ?_ | refine Below.drewN ?_ _ | refine Below.allocT ?_ (Nat.le_refl _) _ | refine Below.setCell ?_ (by simp <;> omega) _ | refine Below.to ?_ (by assumption) (Nat.le_refl _)))⟩
  · have hz1 : (z != 0) = true := by simp [hz0]
    have hv : holdsVal f cs = false := by
      have h1 := HE.out
      unfold holdsErr at h1
      unfold holdsVal
      cases hl : f.ok <;> cases hu : cycOk cs <;> simp [hl, hu] at h1 ⊢
      exact absurd h1 hz0
    have HV := hide hv
    clear hz0 hv
    go_enter Try.func21, Try.ntmps21
    go_wp2_with (first
          | (go_at_call 54; refine (checkFuseE f _).mono ?_; rw [HFE.out]; rintro e w1 ⟨rfl, hB1⟩
             have hW1 : Below w.heap.size w w1 := (by repeat (first | exact Below.refl _ _ | assumption | refine Below.drew ?_ | refine Below.drewN ?_ _ | refine Below.allocT ?_ (Nat.le_refl _) _ | refine Below.setCell ?_ (by simp <;> omega) _ | refine Below.to ?_ (by assumption) (Nat.le_refl _)))
             have H1 : Cyc w1 w1.heap.size (.slice A0 cs.length cap0) cs := (H.out.below hW1).more hW1.size
             have H1 := hide H1)
          | (go_at_call 59; refine (checkCycle_any _ cs _ hn H1.out).mono ?_; rw [HCE.out]; rintro e w2 ⟨rfl, hB2⟩
             have hW2 : Below w.heap.size w w2 := (by repeat (first | exact Below.refl _ _ | assumption | refine Below.drew ?_ | refine Below.drewN ?_ _ | refine Below.allocT ?_ (Nat.le_refl _) _ | refine Below.setCell ?_ (by simp <;> omega) _ | refine Below.to ?_ (by assumption) (Nat.le_refl _))))
          | (go_at_call 58; refine (errors2v _ fe ce z _ (by simp) (by simp) HZ.out).mono ?_; rintro e w3 ⟨rfl, rfl⟩))
    go_ret2
    exact ⟨by rw [HV.out, ← HE.out]; rfl, (by repeat (first | exact Below.refl _ _ | assumption | refine Below.drew ?_ | refine Below.drewN ?_ _ | refine Below.allocT ?_ (Nat.le_refl _) _ | refine Below.setCell ?_ (by simp <;> omega) _ | refine Below.to ?_ (by assumption) (Nat.le_refl _)))⟩
end Go.Proofs.Ytejjjijaojkohaa
/- Milder cycles: no wire becomes warmer, a fuse that held holds, a gauge that fits fits: plain laws. -/
namespace Go.Proofs.Ytejjjijaojkohaa
open Go.RowKit
set_option linter.unusedVariables false

/-- The same seconds, and nowhere a greater current. -/
def MildL : List Cu → List Cu → Prop
  | [], [] => True
  | c :: r, d :: s => d.secs = c.secs ∧ 0 ≤ d.amps ∧ d.amps ≤ c.amps ∧ MildL r s
  | _, _ => False
theorem MildL.length : ∀ {cs ds : List Cu}, MildL cs ds → ds.length = cs.length
  | [], [], _ => rfl
  | c :: r, d :: s, h => by simp [MildL.length h.2.2.2]
  | [], _ :: _, h => by cases h
  | _ :: _, [], h => by cases h
theorem MildL.secsN : ∀ {cs ds : List Cu}, MildL cs ds → secsN ds = secsN cs
  | [], [], _ => rfl
  | c :: r, d :: s, h => by
    have := MildL.secsN h.2.2.2
    simp only [Go.Proofs.Ytejjjijaojkohaa.secsN, List.map_cons, List.sum_cons] at this ⊢
    rw [this, h.1]
  | [], _ :: _, h => by cases h
  | _ :: _, [], h => by cases h
theorem MildL.secsL : ∀ {cs ds : List Cu}, MildL cs ds → ∀ j, 0 ≤ (secsL ds).getD j 0 ∧ (secsL ds).getD j 0 ≤ (secsL cs).getD j 0
  | [], [], _, j => by simp [Go.Proofs.Ytejjjijaojkohaa.secsL]
  | c :: r, d :: s, h, j => by
    have ih := MildL.secsL h.2.2.2
    obtain ⟨h1, h2, h3, _⟩ := h
    simp only [Go.Proofs.Ytejjjijaojkohaa.secsL, List.flatMap_cons] at ih ⊢
    rw [h1]
    simp only [List.getD_eq_getElem?_getD] at ih ⊢
    rcases Nat.lt_or_ge j c.secs.toNat with hj | hj
    · rw [List.getElem?_append_left (by simpa using hj), List.getElem?_append_left (by simpa using hj)]
      simp [hj]
      omega
    · rw [List.getElem?_append_right (by simpa using hj), List.getElem?_append_right (by simpa using hj)]
      simp only [List.length_replicate]
      exact ih _
  | [], _ :: _, h, _ => by cases h
  | _ :: _, [], h, _ => by cases h
theorem MildL.ampAt {cs ds : List Cu} (h : MildL cs ds) (j : Nat) : 0 ≤ ampAt ds j ∧ ampAt ds j ≤ ampAt cs j := by
  unfold Go.Proofs.Ytejjjijaojkohaa.ampAt
  rw [h.secsN]
  exact h.secsL _
theorem MildL.get : ∀ {cs ds : List Cu}, MildL cs ds → ∀ {k : Nat}, k < cs.length → (ds.getD k Cu.z).secs = (cs.getD k Cu.z).secs ∧ 0 ≤ (ds.getD k Cu.z).amps ∧ (ds.getD k Cu.z).amps ≤ (cs.getD k Cu.z).amps
  | [], [], _, k, hk => by simp at hk
  | c :: r, d :: s, h, 0, _ => by simpa using ⟨h.1, h.2.1, h.2.2.1⟩
  | c :: r, d :: s, h, k + 1, hk => by simpa using MildL.get h.2.2.2 (by simpa using hk)
  | [], _ :: _, h, _, _ => by cases h
  | _ :: _, [], h, _, _ => by cases h
theorem MildL.of : ∀ {cs ds : List Cu}, ds.length = cs.length → (∀ k, k < cs.length → (ds.getD k Cu.z).secs = (cs.getD k Cu.z).secs ∧ 0 ≤ (ds.getD k Cu.z).amps ∧ (ds.getD k Cu.z).amps ≤ (cs.getD k Cu.z).amps) → MildL cs ds
  | [], [], _, _ => trivial
  | c :: r, d :: s, hl, h => by
    have h0 := h 0 (by simp)
    simp only [List.getD_cons_zero] at h0
    exact ⟨h0.1, h0.2.1, h0.2.2, MildL.of (by simpa using hl) fun k hk => by have := h (k + 1) (by simpa using hk); simpa using this⟩
  | [], _ :: _, hl, _ => by simp at hl
  | _ :: _, [], hl, _ => by simp at hl
theorem MildL.ok {cs ds : List Cu} (h : MildL cs ds) (hok : cycOk cs = true) : cycOk ds = true := by
  have hl := h.length
  have h6 := cycOk_len hok
  simp only [cycOk, Bool.and_eq_true, fromB_iff, Bool.not_eq_true', List.any_eq_false] at hok ⊢
  refine ⟨by omega, fun c hc => ?_⟩
  obtain ⟨k, hk, rfl⟩ := List.getElem_of_mem hc
  obtain ⟨h1, h2, h3⟩ := h.get (k := k) (by omega)
  have hm : cs.getD k Cu.z ∈ cs := by
    rw [List.getD_eq_getElem?_getD, List.getElem?_eq_getElem (by omega)]
    exact List.getElem_mem _
  have h4 := hok.2 _ hm
  have hd : ds.getD k Cu.z = ds[k] := by simp [hk]
  rw [hd] at h1 h2 h3
  simp only [Bool.not_eq_false, Cu.ok, Bool.and_eq_true, fromB_iff] at h4 ⊢
  omega

theorem warmI_amps (g : Ga) (hh0 : 0 ≤ g.heat) (r : Int) {a b : Int} (ha : 0 ≤ a) (h : a ≤ b) : warmI g r a ≤ warmI g r b := by
  unfold warmI
  have h1 : a * a ≤ b * b := Int.mul_le_mul h h ha (by omega)
  have h2 : a * a * g.heat ≤ b * b * g.heat := Int.mul_le_mul_of_nonneg_right h1 hh0
  omega
theorem heatI_amps (f : Fu) (r : Int) {a b : Int} (ha : 0 ≤ a) (h : a ≤ b) : heatI f r a ≤ heatI f r b := by
  unfold heatI
  have h1 : a * a ≤ b * b := Int.mul_le_mul h h ha (by omega)
  omega
section
variable {f : Int → Int → Int} (hf : ∀ a b x, a ≤ b → f a x ≤ f b x) (hx : ∀ r a b, 0 ≤ a → a ≤ b → f r a ≤ f r b) {cs ds : List Cu} (h : MildL cs ds)
include hf hx h
theorem stU_mild {a b : Int} (hab : a ≤ b) : ∀ s, stU f ds a s ≤ stU f cs b s
  | 0 => hab
  | s + 1 => by
    rw [stU_succ, stU_succ]
    have h1 := stU_mild hab s
    obtain ⟨h2, h3⟩ := h.ampAt s
    exact Int.le_trans (hf _ _ _ h1) (hx _ _ _ h2 h3)
theorem mxU_mild {a b : Int} (hab : a ≤ b) : ∀ s, mxU f ds a s ≤ mxU f cs b s
  | 0 => hab
  | s + 1 => by
    have h1 := mxU_mild hab s
    have h2 := stU_mild hf hx h hab (s + 1)
    rw [mxU_succ, mxU_succ]; omega
theorem cySt_mild {a b : Int} (hab : a ≤ b) : cySt f ds a ≤ cySt f cs b := by unfold cySt; rw [h.secsN]; exact stU_mild hf hx h hab _
theorem cyMx_mild {a b : Int} (hab : a ≤ b) : cyMx f ds a ≤ cyMx f cs b := by unfold cyMx; rw [h.secsN]; exact mxU_mild hf hx h hab _
end
theorem pk_le {f : Int → Int → Int} {ds : List Cu} (hf : ∀ a b x, a ≤ b → f a x ≤ f b x) {q M limit : Int} (hq : ∀ r, r ≤ q → cySt f ds r ≤ q ∧ cyMx f ds r ≤ M) (hM : M ≤ limit) : ∀ (n : Nat) (r : Int), r ≤ q → r ≤ cySt f ds r → q - r + 1 < n → pk f ds limit n r ≤ M
  | 0, r, h1, _, h3 => by omega
  | n + 1, r, h1, h2, h3 => by
    obtain ⟨h4, h5⟩ := hq r h1
    simp only [pk]
    rw [if_neg (by omega)]
    by_cases h6 : cySt f ds r = r
    · rw [if_pos h6]; exact h5
    · rw [if_neg h6]
      exact pk_le hf hq hM n _ h4 (stU_mono hf h2 _) (by omega)
theorem peak_mild {g : Ga} (hg : g.Ok) {cs ds : List Cu} (h : MildL cs ds) (hok : cycOk cs = true) {limit : Int} (h0 : 0 ≤ limit) : peakI g ds limit ≤ peakI g cs limit := by
  have hf := warmI_mono g hg.cool0 hg.cool1
  have hx := fun r a b (ha : (0 : Int) ≤ a) (hab : a ≤ b) => warmI_amps g hg.heat0 r ha hab
  by_cases hc : peakI g cs limit ≤ limit
  · obtain ⟨q, h1, h2, h3⟩ := pk_fix hf _ 0 (cySt_nonneg hg hok (Int.le_refl _)) hc
    have hql : q ≤ limit := by
      have := le_cyMx (warmI g) cs q
      unfold peakI at hc
      omega
    unfold peakI
    rw [h3]
    refine pk_le hf (q := q) (fun r hr => ?_) (by unfold peakI at hc; omega) _ 0 h1 (cySt_nonneg hg (h.ok hok) (Int.le_refl _)) (by omega)
    have h4 := cySt_mild hf hx h hr
    have h5 := cyMx_mild hf hx h hr
    exact ⟨by omega, h5⟩
  · have := (peak_range hg (h.ok hok) h0).2
    omega
theorem sumU_mild {f : Fu} {cs ds : List Cu} (h : MildL cs ds) : ∀ s, sumU f ds s ≤ sumU f cs s
  | 0 => Int.le_refl _
  | s + 1 => by
    have h1 := sumU_mild (f := f) h s
    obtain ⟨h2, h3⟩ := h.ampAt s
    have h4 : ampAt ds s * ampAt ds s ≤ ampAt cs s * ampAt cs s := Int.mul_le_mul h3 h3 h2 (by omega)
    unfold sumU
    omega
theorem holds_mild {f : Fu} {cs ds : List Cu} (h : MildL cs ds) (hok : cycOk cs = true) (hh : holdsB f cs = true) : holdsB f ds = true := by
  have hs : sumU f cs (secsN cs) ≤ 0 := by
    rcases Int.lt_or_le 0 (sumU f cs (secsN cs)) with h1 | h1
    · rw [holds_sum h1] at hh; cases hh
    · exact h1
  have hN := secsN_pos hok
  refine holds_cool (by rw [h.secsN]; exact Int.le_trans (sumU_mild h _) hs) (by rw [h.secsN]; exact hN) fun s hs2 => ?_
  rw [h.secsN] at hs2
  have h1 := stU_mild (heatI_mono f) (fun r a b ha hab => heatI_amps f r ha hab) h (Int.le_refl 0) (s + 1)
  rcases Int.lt_or_le (stU (heatI f) cs 0 (s + 1)) f.melt with h2 | h2
  · omega
  · rw [holds_melts hs hs2 h2] at hh; cases hh
theorem gtI_mild {cs ds : List Cu} (h : MildL cs ds) : gtI ds ≤ gtI cs := by
  have hk : ∀ k, k ≤ cs.length → maxTo ds k ≤ maxTo cs k := by
    intro k
    induction k with
    | zero => intro _; exact Int.le_refl _
    | succ k ih =>
      intro hk
      have h1 := ih (by omega)
      obtain ⟨_, _, h2⟩ := h.get (k := k) (by omega)
      unfold maxTo
      omega
  unfold gtI
  rw [h.length]
  exact hk _ (Nat.le_refl _)
theorem fits_mild {g : Ga} (hg : g.Ok) {cs ds : List Cu} (h : MildL cs ds) {n m : Ne} (hk : NeOk n cs) (hl0 : 0 ≤ m.len) (hl1 : m.len ≤ n.len) (hd : n.drop ≤ m.drop) (ha : m.amb ≤ n.amb) (hf : fitsB g n cs = true) : fitsB g m ds = true := by
  unfold fitsB at hf ⊢
  simp only [Bool.and_eq_true, decide_eq_true_eq] at hf ⊢
  have h1 := peak_mild hg h hk.cyc hg.limit0
  have h2 := gtI_mild h
  have h3 := (gtI_range (h.ok hk.cyc)).1
  have h4 : dropI g (gtI ds) m.len ≤ dropI g (gtI cs) n.len := by
    unfold dropI
    have p1 : gtI ds * m.len ≤ gtI cs * n.len := Int.mul_le_mul h2 hl1 hl0 (by omega)
    have p2 : gtI ds * m.len * g.ohm ≤ gtI cs * n.len * g.ohm := Int.mul_le_mul_of_nonneg_right p1 hg.ohm0
    omega
  omega
theorem rise_mild {g : Ga} (hg : g.Ok) {cs ds : List Cu} (h : MildL cs ds) (n : Nat) : runSt (warmI g) 0 (ups ds n) ≤ runSt (warmI g) 0 (ups cs n) :=
  stU_mild (warmI_mono g hg.cool0 hg.cool1) (fun r a b ha hab => warmI_amps g hg.heat0 r ha hab) h (Int.le_refl 0) n
end Go.Proofs.Ytejjjijaojkohaa
/- Lemmas for the frame of a law, as the guide's pages lay them for copying, and some of my own: no condition. -/
namespace Go.Proofs.Ytejjjijaojkohaa
open Go.Joins Go.ChangeShapes Go.WideShapes Go.ChangeAt Go.RowKit Go.Deep

section
variable {H : Type} {enc : TypeId × Value → H} {P : Program}
theorem post_of_below {f : Func} {s : ChangeSpec} {apart fresh handsOn again : Bool} {W W' : World} {args : Array Value} {v : Value} {ds gs : List (DataW H)} {before pa pv : List MemPlace}
    (hW : DataW.Whole enc P f.params.toList s.vars apart W args.toList ds gs before)
    (hres : ∀ (b : Nat) (sp : Nat → Bool) (hd : Bool), DataW.TrodAll enc P W' b sp hd f.resultTypes.toList (v.resultList f.resultTypes.size) (s.fn H (ds ++ gs)).results [])
    (hargs : ∀ sp : Nat → Bool, (∀ p ∈ before, sp p.block = true) → DataW.TrodAll enc P W' 0 sp true f.params.toList args.toList (s.fn H (ds ++ gs)).args pa)
    (hvars : ∀ sp : Nat → Bool, (∀ p ∈ before, sp p.block = true) → DataW.TrodVars enc P W' sp s.vars (s.fn H (ds ++ gs)).vars pv)
    (hps : before = pa ++ pv) (hb : Below W.heap.size W W')
    (hok : ∀ (j : Nat) (t : TypeId) (r : Value), f.resultTypes[j]? = some t → (v.resultList f.resultTypes.size)[j]? = some r → Value.okWide P W' .any 0 t r) :
    s.post enc P f apart fresh handsOn again W args v W' := by
  have hlt : ∀ p ∈ before, p.block < W.heap.size := fun p hp => hW.lt p hp
  have hold : ∀ p ∈ before, (fun b => decide (b < W.heap.size)) p.block = true := fun p hp => by simpa using hlt p hp
  refine ⟨ds, gs, before, [], pa, pv, hW, hres _ _ _, hargs _ hold, hvars _ hold, World.keptBut_mono (fun p hp => ⟨hp, ?_⟩) (hb.frame (· ∈ before)), fun _ => ?_⟩
  · rw [hps, List.mem_append] at hp
    exact Or.inr hp
  · obtain ⟨_, _, _, _, _, hz, hn⟩ := hW
    refine ⟨hok, _, _, ([] ++ pa) ++ pv, ⟨[] ++ pa, pv, trodAll_append (hargs _ (fun _ _ => rfl)) (hres _ _ _), hvars _ (fun _ _ => rfl), rfl, ?_, ?_⟩, ?_⟩
    · intro b off hp
      have hin : MemPlace.cell b off ∈ before := by rw [hps]; simpa using hp
      rw [hb.frozen (hlt _ hin)]
      exact hz b off hin
    · intro ha
      have := hn ha
      rw [hps] at this
      simpa using this
    · intro p hp _
      rw [hps]
      simpa using hp

/-- Arguments read as they did, where nothing below the old heap has changed. -/
theorem trodAll_stays (hl : laidOutB P = true) {W W' : World} (hb : Below W.heap.size W W') (sp : Nat → Bool) : ∀ (ts : List TypeId) (vs : List Value) (ds : List (DataW H)) (ps : List MemPlace),
    (∀ t ∈ ts, P.readableRec t = true ∧ t < P.types.size) → DataW.TrodAll enc P W 0 (fun _ => true) true ts vs ds ps → (∀ x ∈ ps, x.block < W.heap.size) → (∀ x ∈ ps, sp x.block = true) → DataW.TrodAll enc P W' 0 sp true ts vs ds ps
  | [], [], [], _, _, h, _, _ => h
  | t :: ts, v :: vs, d :: ds, ps, hr, ⟨p, q, h1, h2, hp⟩, hlt, hsp => by
    subst hp
    refine ⟨p, q, ?_, trodAll_stays hl hb sp ts vs ds q (fun t' ht => hr t' (List.mem_cons_of_mem _ ht)) h2 (fun x hx => hlt x (List.mem_append_right _ hx)) (fun x hx => hsp x (List.mem_append_right _ hx)), rfl⟩
    have h := hr t (List.mem_cons_self ..)
    exact WideElems.Trod_stays hl h.1 h.2 h1 (fun x hx => hb.same (hlt x (List.mem_append_left _ hx))) (fun x hx => hsp x (List.mem_append_left _ hx))
end

section
variable {H : Type} {enc : TypeId × Value → H} {P : Program} {w : World} {base : Nat} {spare : Nat → Bool} {held : Bool}
theorem open_slice_fields {t e : TypeId} {fs : Array Field} {fuel : Nat} {cs : List Value} {x : DataW H × List MemPlace} (ht : P.underlying t = some (.slice e)) (he : P.underlying e = some (.struct fs))
    (hone : oneCellFields P fs = true) (hC : P.cellsOf e = fs.size) (h : DataW.trod enc P w base spare held fuel t cs = some x) :
    (cs = [.slice none 0 0] ∧ x = (.nil, [])) ∨
    ∃ (a : Addr) (len cap m : Nat) (D : Nat → DataW H) (Pl : Nat → List MemPlace), cs = [.slice (some a) len cap] ∧ base ≤ a.block ∧ len ≤ cap ∧ cap ≤ maxLen ∧ m = (if spare a.block then cap else len) ∧
      x = (.slice ((List.range len).map D) ((List.range (m - len)).map fun j => D (len + j)), MemPlace.row a (m * fs.size) ++ (List.range m).flatMap Pl) ∧
      ∀ i, i < m → ∃ (ys : List (DataW H × List MemPlace)) (n : Nat), D i = .agg (ys.map (·.1)) ∧ Pl i = ys.flatMap (·.2) ∧ ys.length = fs.size ∧
        ∀ (j : Nat) (f : Field), fs[j]? = some f → ∃ (v : Value) (y : DataW H × List MemPlace), w.cell? (a.add (i * fs.size + j)) = some v ∧ ys[j]? = some y ∧ DataW.trod enc P w base spare held n f.type [v] = some y := by
  rcases open_slice ht h with h0 | ⟨a, len, cap, m, n, D, Pl, hcs, hb, hl, hm, hmm, hx, hi⟩
  · exact .inl h0
  · refine .inr ⟨a, len, cap, m, D, Pl, hcs, hb, hl, hm, hmm, by rw [hC] at hx; exact hx, fun i him => ?_⟩
    obtain ⟨cs', hc, ht'⟩ := hi i him
    rw [hC] at hc
    obtain ⟨ys, n', hn', hy, hlen, hyl, hf⟩ := DataW.trod_struct he ht'
    obtain ⟨_, hcl, hat⟩ := World.cells?_some hc
    simp only [Prod.mk.injEq] at hy
    refine ⟨ys, n', hy.1, hy.2, hyl, fun j f hj => ?_⟩
    obtain ⟨ho, hk⟩ := hone_of hone j f hj
    have hjl : j < fs.size := (Array.getElem?_eq_some_iff.1 hj).1
    have hcell := hat j hjl
    have hv : cs'[j]? = some (cs'[j]'(by omega)) := List.getElem?_eq_getElem (by omega)
    have h1 := hf j f hj
    rw [ho, hk] at h1
    have hone' : (cs'.drop j).take 1 = [cs'[j]'(by omega)] := by
      rw [List.drop_eq_getElem_cons (by omega)]
      rfl
    rw [hone'] at h1
    have hys : ys[j]? = some (ys[j]'(by omega)) := List.getElem?_eq_getElem (by omega)
    refine ⟨_, _, ?_, hys, h1.trans hys⟩
    rw [← Go.Deep.add_add, hcell, hv]

theorem open_agg5 {r : Reach} {b0 : Nat} {t : TypeId} {f0 f1 f2 f3 f4 : Field} {v : Value} {d : DataW H} {p : List MemPlace} (hs : P.underlying t = some (.struct #[f0, f1, f2, f3, f4])) (hone : oneCellFields P #[f0, f1, f2, f3, f4] = true) (hC : P.cellsOf t = 5)
    (hv : Value.okWide P w r b0 t v) (h : DataW.Trod enc P w base spare held t v d p) :
    ∃ (v0 v1 v2 v3 v4 : Value) (y0 y1 y2 y3 y4 : DataW H × List MemPlace) (n : Nat), v = .agg #[v0, v1, v2, v3, v4] ∧ d = .agg [y0.1, y1.1, y2.1, y3.1, y4.1] ∧ p = y0.2 ++ (y1.2 ++ (y2.2 ++ (y3.2 ++ y4.2))) ∧
      DataW.trod enc P w base spare held n f0.type [v0] = some y0 ∧ DataW.trod enc P w base spare held n f1.type [v1] = some y1 ∧ DataW.trod enc P w base spare held n f2.type [v2] = some y2 ∧ DataW.trod enc P w base spare held n f3.type [v3] = some y3 ∧ DataW.trod enc P w base spare held n f4.type [v4] = some y4 := by
  obtain ⟨cs, rfl, hsz⟩ := okWide_struct hs hv
  obtain ⟨l⟩ := cs
  match l, hsz.trans hC with
  | [c0, c1, c2, c3, c4], _ =>
    obtain ⟨fuel, hf⟩ := h
    obtain ⟨xs, n, _, hx, _, hlen, hg⟩ := DataW.trod_struct hs hf
    obtain ⟨o0, k0⟩ := hone_of hone 0 f0 rfl
    obtain ⟨o1, k1⟩ := hone_of hone 1 f1 rfl
    obtain ⟨o2, k2⟩ := hone_of hone 2 f2 rfl
    obtain ⟨o3, k3⟩ := hone_of hone 3 f3 rfl
    obtain ⟨o4, k4⟩ := hone_of hone 4 f4 rfl
    match xs, hlen with
    | [y0, y1, y2, y3, y4], _ =>
      simp only [Prod.mk.injEq] at hx
      exact ⟨c0, c1, c2, c3, c4, y0, y1, y2, y3, y4, n, rfl, by simpa using hx.1, by simpa using hx.2, by simpa [Value.cells, o0, k0] using hg 0 f0 rfl, by simpa [Value.cells, o1, k1] using hg 1 f1 rfl, by simpa [Value.cells, o2, k2] using hg 2 f2 rfl, by simpa [Value.cells, o3, k3] using hg 3 f3 rfl, by simpa [Value.cells, o4, k4] using hg 4 f4 rfl⟩
end
end Go.Proofs.Ytejjjijaojkohaa
/- A slice argument opened, whatever its elements are: each element by a law of its own. No condition. -/
namespace Go.Proofs.Ytejjjijaojkohaa
open Go.Joins Go.ChangeShapes Go.WideShapes Go.ChangeAt Go.RowKit Go.Deep

theorem choose_upto {α : Type} (z : α) {n : Nat} {Q : Nat → α → Prop} (h : ∀ i, i < n → ∃ x, Q i x) : ∃ xs : List α, xs.length = n ∧ ∀ i, i < n → Q i (xs.getD i z) := by
  induction n with
  | zero => exact ⟨[], rfl, fun i hi => absurd hi (by omega)⟩
  | succ n ih =>
    obtain ⟨xs, hl, hx⟩ := ih fun i hi => h i (by omega)
    obtain ⟨y, hy⟩ := h n (by omega)
    refine ⟨xs ++ [y], by simp [hl], fun i hi => ?_⟩
    rcases Nat.lt_or_ge i n with h1 | h1
    · have := hx i h1
      rw [List.getD_eq_getElem?_getD, List.getElem?_append_left (by omega), ← List.getD_eq_getElem?_getD]
      exact this
    · have he : i = n := by omega
      subst he
      rw [List.getD_eq_getElem?_getD, List.getElem?_append_right (by omega), hl]
      simpa using hy

section
variable {H : Type} {enc : TypeId × Value → H} {P : Program} {w : World} {base : Nat} {spare : Nat → Bool} {held : Bool}
theorem addr_of_cell {a : Addr} {u : Value} (h : w.cell? (a.add 0) = some u) : a.spot = none ∧ a.block < w.heap.size := by
  have h' : w.cell? a = some u := h
  unfold World.cell? at h'
  cases hh : w.heap[a.block]? with
  | none => rw [hh] at h'; cases h'
  | some o =>
    refine ⟨?_, (Array.getElem?_eq_some_iff.1 hh).1⟩
    rw [hh] at h'
    cases o with
    | cells c t f =>
      simp only at h'
      cases hsp : a.spot with
      | none => rfl
      | some q => rw [if_pos (by simp [hsp])] at h'; cases h'
    | _ => cases h'
theorem cell_of_add {a : Addr} {m : Nat} {u : Value} (hs : a.spot = none) (h : w.cell? (a.add m) = some u) : w.cell? ⟨a.block, a.off + m, none⟩ = some u := by
  obtain ⟨b, o, s⟩ := a
  simp only at hs
  subst hs
  unfold Addr.add at h
  split at h
  · rename_i h0
    rw [h0]; exact h
  · exact h

theorem open_rows {α : Type} (z : α) (F : α → Nat → Value) (R : α → Prop) {t e : TypeId} {sz n : Nat} {c : Value} {y : DataW H × List MemPlace} (ht : P.underlying t = some (.slice e)) (hC : P.cellsOf e = sz) (hsz : 0 < sz)
    (hopen : ∀ (n : Nat) (cs' : List Value) (y : DataW H × List MemPlace), cs'.length = sz → DataW.trod enc P w base spare held n e cs' = some y → ∃ x : α, (∀ j, j < sz → cs'[j]? = some (F x j)) ∧ R x)
    (h : DataW.trod enc P w base spare held n t [c] = some y) :
    ∃ xs : List α, Sl w w.heap.size sz c xs.length (fun i j => F (xs.getD i z) j) ∧ xs.length ≤ maxLen ∧ ∀ i, i < xs.length → R (xs.getD i z) := by
  rcases open_slice ht h with ⟨hcs, _⟩ | ⟨a, len, cap, m, n', D, Pl, hcs, _, hl, hm, hmm, _, hel⟩
  · simp at hcs
    subst hcs
    exact ⟨[], Sl.nil _ _ _ _, by simp, fun i hi => absurd hi (by simp)⟩
  · simp at hcs
    subst hcs
    have hlm : len ≤ m := by rw [hmm]; split <;> omega
    have hx : ∀ i, i < len → ∃ x : α, (∀ j, j < sz → w.cell? (a.add (i * sz + j)) = some (F x j)) ∧ R x := by
      intro i hi
      obtain ⟨cs', hc, ht'⟩ := hel i (by omega)
      rw [hC] at hc
      obtain ⟨_, hcl, hat⟩ := World.cells?_some hc
      obtain ⟨x, hx, hr⟩ := hopen _ _ _ hcl ht'
      refine ⟨x, fun j hj => ?_, hr⟩
      rw [← Go.Deep.add_add, hat j hj]
      exact hx j hj
    obtain ⟨xs, hlen, hxs⟩ := choose_upto z hx
    refine ⟨xs, ?_, by omega, fun i hi => (hxs i (by omega)).2⟩
    rw [hlen]
    rcases Nat.eq_zero_or_pos len with h0 | h0
    · exact ⟨_, 0, 0, _, rfl, hl, .inr h0, fun i j hi => absurd hi (by omega)⟩
    · have h1 := (hxs 0 h0).1 0 hsz
      rw [Nat.zero_mul] at h1
      obtain ⟨hs, hb⟩ := addr_of_cell h1
      exact ⟨_, a.block, a.off, _, rfl, hl, .inl ⟨by rw [← hs], hb⟩, fun i j hi hj => cell_of_add hs ((hxs i hi).1 j hj)⟩
end
end Go.Proofs.Ytejjjijaojkohaa
/- The arguments of the laws about wires, opened: no condition. -/
namespace Go.Proofs.Ytejjjijaojkohaa
open Go.Joins Go.ChangeShapes Go.WideShapes Go.ChangeAt Go.RowKit Go.Deep
set_option maxRecDepth 100000
section
variable {H : Type} {enc : TypeId × Value → H} {W : World} {base b0 : Nat} {r : Reach} {spare : Nat → Bool} {held : Bool} {v : Value} {d : DataW H} {p : List MemPlace}

def I64 (n : Int) : Prop := -9223372036854775808 ≤ n ∧ n ≤ 9223372036854775807
theorem I64.of {n : Int} (h : (Lit.int .i64 n).wf = true) : I64 n := by
  simp [Lit.wf, IntKind.min, IntKind.max, IntKind.signed, IntKind.bits] at h
  exact ⟨by omega, by omega⟩
theorem int_cell {n : Nat} {c : Value} {y : DataW H × List MemPlace} (h : DataW.trod enc Try.prog W base spare held n 3 [c] = some y) : ∃ a, c = .int .i64 a ∧ I64 a := by
  obtain ⟨a, e0, _, wa⟩ := DataW.trod_int Try.underlying3 h
  simp at e0
  exact ⟨a, e0, I64.of wa⟩

theorem open_gauge (hv : Value.okWide Try.prog W r b0 23 v) (h : DataW.Trod enc Try.prog W base spare held 23 v d p) :
    ∃ g : Ga, v = .agg #[.int .i64 g.area, .int .i64 g.ohm, .int .i64 g.heat, .int .i64 g.cool, .int .i64 g.limit] := by
  obtain ⟨c0, c1, c2, c3, c4, y0, y1, y2, y3, y4, m, rfl, _, _, hy0, hy1, hy2, hy3, hy4⟩ := open_agg5 Try.underlying23 (by kernel_rfl) (by kernel_rfl) hv h
  obtain ⟨a0, rfl, _⟩ := int_cell hy0
  obtain ⟨a1, rfl, _⟩ := int_cell hy1
  obtain ⟨a2, rfl, _⟩ := int_cell hy2
  obtain ⟨a3, rfl, _⟩ := int_cell hy3
  obtain ⟨a4, rfl, _⟩ := int_cell hy4
  exact ⟨⟨a0, a1, a2, a3, a4⟩, rfl⟩
theorem open_fuse (hv : Value.okWide Try.prog W r b0 30 v) (h : DataW.Trod enc Try.prog W base spare held 30 v d p) :
    ∃ f : Fu, v = .agg #[.int .i64 f.rating, .int .i64 f.melt] := by
  obtain ⟨c0, c1, y0, y1, m, rfl, _, _, hy0, hy1⟩ := open_agg2 Try.underlying30 (by kernel_rfl) (by kernel_rfl) hv h
  obtain ⟨a0, rfl, _⟩ := int_cell hy0
  obtain ⟨a1, rfl, _⟩ := int_cell hy1
  exact ⟨⟨a0, a1⟩, rfl⟩
theorem open_i64 (hv : Value.okWide Try.prog W r b0 3 v) (h : DataW.Trod enc Try.prog W base spare held 3 v d p) : ∃ a, v = .int .i64 a ∧ I64 a := by
  obtain ⟨a, rfl, _, _, wa⟩ := open_int Try.underlying3 hv h
  exact ⟨a, rfl, I64.of wa⟩

instance : Inhabited Cu := ⟨Cu.z⟩
/-- Where a slice's first cell was read there is a block, and the address names no part of a cell. -/
theorem cell_addr0 {a : Addr} {u : Value} (h : W.cell? (a.add 0) = some u) : a.spot = none ∧ a.block < W.heap.size := by
  have h' : W.cell? a = some u := h
  unfold World.cell? at h'
  cases hh : W.heap[a.block]? with
  | none => rw [hh] at h'; cases h'
  | some o =>
    refine ⟨?_, (Array.getElem?_eq_some_iff.1 hh).1⟩
    rw [hh] at h'
    cases o with
    | cells c t f =>
      simp only at h'
      cases hsp : a.spot with
      | none => rfl
      | some q => rw [if_pos (by simp [hsp])] at h'; cases h'
    | _ => cases h'
theorem cell_addr {a : Addr} {m : Nat} {u : Value} (hs : a.spot = none) (h : W.cell? (a.add m) = some u) : W.cell? ⟨a.block, a.off + m, none⟩ = some u := by
  obtain ⟨b, o, s⟩ := a
  simp only at hs
  subst hs
  unfold Addr.add at h
  split at h
  · rename_i h0
    rw [h0]; exact h
  · exact h

theorem open_cycle (hv : Value.okWide Try.prog W r b0 31 v) (h : DataW.Trod enc Try.prog W base spare held 31 v d p) :
    ∃ cs : List Cu, Cyc W W.heap.size v cs ∧ cs.length ≤ maxLen ∧ ∀ c ∈ cs, I64 c.amps ∧ I64 c.secs := by
  obtain ⟨a0, len, cap, rfl⟩ := okWide_slice Try.underlying31 hv
  obtain ⟨fuel, hf⟩ := h
  rcases open_slice_fields Try.underlying31 Try.underlying54 (by kernel_rfl) (by kernel_rfl) hf with ⟨hcs, _⟩ | ⟨a, len', cap', m, D, Pl, hcs, _, hl, hm, hmm, _, hel⟩
  · simp [Value.cells] at hcs
    obtain ⟨rfl, rfl, rfl⟩ := hcs
    exact ⟨[], Sl.nil _ _ _ _, by simp, by simp⟩
  · simp [Value.cells] at hcs
    obtain ⟨rfl, rfl, rfl⟩ := hcs
    have hlm : len ≤ m := by rw [hmm]; split <;> omega
    have hel2 : ∀ i, i < len → ∃ c : Cu, W.cell? (a.add (i * 2 + 0)) = some (.int .i64 c.amps) ∧ W.cell? (a.add (i * 2 + 1)) = some (.int .i64 c.secs) ∧ I64 c.amps ∧ I64 c.secs := by
      intro i hi
      obtain ⟨ys, n, _, _, _, hfd⟩ := hel i (by omega)
      obtain ⟨u0, y0, hc0, _, ht0⟩ := hfd 0 _ rfl
      obtain ⟨u1, y1, hc1, _, ht1⟩ := hfd 1 _ rfl
      obtain ⟨x0, rfl, w0⟩ := int_cell ht0
      obtain ⟨x1, rfl, w1⟩ := int_cell ht1
      exact ⟨⟨x0, x1⟩, hc0, hc1, w0, w1⟩
    obtain ⟨F, hF⟩ := choose_lt (α := Cu) hel2
    refine ⟨(List.range len).map F, ?_, by simp; omega, ?_⟩
    · have hlen : ((List.range len).map F).length = len := by simp
      have hget : ∀ i, i < len → ((List.range len).map F).getD i Cu.z = F i := fun i hi => by simp [hi]
      unfold Cyc
      rw [hlen]
      rcases Nat.eq_zero_or_pos len with h0 | h0
      · exact ⟨_, 0, 0, _, rfl, hl, .inr h0, fun i j hi => absurd hi (by omega)⟩
      · obtain ⟨hs, hb⟩ := cell_addr0 (hF 0 h0).1
        refine ⟨_, a.block, a.off, _, rfl, hl, .inl ⟨by rw [← hs], hb⟩, fun i j hi hj => ?_⟩
        have h2 := hF i hi
        unfold cyF
        rw [hget i hi]
        match j, hj with
        | 0, _ => exact cell_addr hs h2.1
        | 1, _ => exact cell_addr hs h2.2.1
    · intro c hc
      obtain ⟨i, hi, rfl⟩ := List.mem_map.1 hc
      have := hF i (by simpa using hi)
      exact this.2.2
end
end Go.Proofs.Ytejjjijaojkohaa
/- A fuse that guards a wire: the plain law. -/
namespace Go.Proofs.Ytejjjijaojkohaa
open Go.RowKit
set_option linter.unusedVariables false
set_option linter.unusedSectionVars false

theorem mxU_ex (f : Int → Int → Int) (cs : List Cu) (r limit : Int) : ∀ t, limit < mxU f cs r t → ∃ s, s ≤ t ∧ limit < stU f cs r s
  | 0, h => ⟨0, Nat.le_refl _, h⟩
  | t + 1, h => by
    rw [mxU_succ] at h
    rcases Int.lt_or_le limit (stU f cs r (t + 1)) with h1 | h1
    · exact ⟨t + 1, Nat.le_refl _, h1⟩
    · obtain ⟨s, h2, h3⟩ := mxU_ex f cs r limit t (by omega)
      exact ⟨s, by omega, h3⟩
theorem pk_over {f : Int → Int → Int} {cs : List Cu} (hf : ∀ a b x, a ≤ b → f a x ≤ f b x) {limit r0 : Int} : ∀ (n : Nat) (r : Int), limit - r + 1 < n → r ≤ cySt f cs r → (∃ k, r = stU f cs r0 (k * secsN cs)) → pk f cs limit n r ≤ limit ∨ ∃ s, limit < stU f cs r0 s
  | 0, r, h, _, ⟨k, hk⟩ => .inr ⟨k * secsN cs, by rw [← hk]; omega⟩
  | n + 1, r, h, hr, ⟨k, hk⟩ => by
    simp only [pk]
    by_cases h1 : limit < cyMx f cs r
    · right
      obtain ⟨s, _, h3⟩ := mxU_ex f cs r limit _ h1
      exact ⟨k * secsN cs + s, by rw [stU_add, ← hk]; exact h3⟩
    · rw [if_neg h1]
      by_cases h2 : cySt f cs r = r
      · rw [if_pos h2]; left; omega
      · rw [if_neg h2]
        exact pk_over hf n (cySt f cs r) (by omega) (stU_mono hf hr _) ⟨k + 1, by rw [Nat.succ_mul, stU_add, ← hk]; rfl⟩
theorem peak_within {g : Ga} (hg : g.Ok) {cs : List Cu} (hok : cycOk cs = true) {limit : Int} (h0 : 0 ≤ limit) (h : ∀ s, stU (warmI g) cs 0 s ≤ limit) : peakI g cs limit ≤ limit := by
  rcases pk_over (warmI_mono g hg.cool0 hg.cool1) (cs := cs) (limit := limit) (r0 := 0) (limit.toNat + 2) 0 (by omega) (cySt_nonneg hg hok (Int.le_refl _)) ⟨0, by rw [Nat.zero_mul]; rfl⟩ with h1 | ⟨s, h1⟩
  · exact h1
  · have := h s; omega

/-- One current for one second. -/
def cs1 (a : Int) : List Cu := [⟨a, 1⟩]
theorem cs1_ok {a : Int} (h0 : 0 ≤ a) (h1 : a ≤ 500) : cycOk (cs1 a) = true := by
  simp [cs1, cycOk, Cu.ok, fromB, h0, h1]
theorem cs1_amp (a : Int) (s : Nat) : ampAt (cs1 a) s = a := by
  have h1 : secsN (cs1 a) = 1 := rfl
  unfold ampAt
  rw [h1, Nat.mod_one]
  rfl
/-- The rise of a wire under one current behind some seconds. -/
def rsC (g : Ga) (a : Int) (s : Nat) : Int := stU (warmI g) (cs1 a) 0 s
theorem rsC_zero (g : Ga) (a : Int) : rsC g a 0 = 0 := rfl
theorem rsC_succ (g : Ga) (a : Int) (s : Nat) : rsC g a (s + 1) = warmI g (rsC g a s) a := by
  unfold rsC; rw [stU_succ, cs1_amp]
section
variable {g : Ga} (hg : g.Ok) {a : Int} (h0 : 0 ≤ a) (h1 : a ≤ 500)
include hg h0 h1
theorem rsC_nonneg (s : Nat) : 0 ≤ rsC g a s := (st_range hg (cs1_ok h0 h1) (Int.le_refl 0) s).1
theorem rsC_up : ∀ s, rsC g a s ≤ rsC g a (s + 1)
  | 0 => by rw [rsC_zero]; exact rsC_nonneg hg h0 h1 _
  | s + 1 => by rw [rsC_succ, rsC_succ]; exact warmI_mono g hg.cool0 hg.cool1 _ _ _ (rsC_up s)
theorem rsC_le {s t : Nat} (h : s ≤ t) : rsC g a s ≤ rsC g a t := by
  induction t with
  | zero => have : s = 0 := by omega
            subst this; exact Int.le_refl _
  | succ t ih =>
    rcases Nat.lt_or_ge t s with h2 | h2
    · have : s = t + 1 := by omega
      subst this; exact Int.le_refl _
    · exact Int.le_trans (ih h2) (rsC_up hg h0 h1 t)
theorem rsC_stays {s : Nat} (h : rsC g a (s + 1) = rsC g a s) : ∀ t, rsC g a (s + t) = rsC g a s
  | 0 => rfl
  | t + 1 => by rw [← Nat.add_assoc, rsC_succ, rsC_stays h t, ← rsC_succ, h]
theorem rsC_top {s : Nat} (h : rsC g a (s + 1) = rsC g a s) (t : Nat) : rsC g a t ≤ rsC g a s := by
  rcases Nat.lt_or_ge s t with h2 | h2
  · obtain ⟨u, rfl⟩ : ∃ u, t = s + u := ⟨t - s, by omega⟩
    rw [rsC_stays hg h0 h1 h u]; exact Int.le_refl _
  · exact rsC_le hg h0 h1 h2
end

/-- Until the fuse opens the wire is not too warm. -/
def GuardP (f : Fu) (g : Ga) (amb a : Int) : Prop := ∀ s : Nat, blowDen f a = 0 ∨ s * blowDen f a < blowNum f a → rsC g a s + amb ≤ g.limit
open Classical in
noncomputable def guardB (f : Fu) (g : Ga) (amb a : Int) : Bool := if GuardP f g amb a then true else false
theorem guard_yes {f : Fu} {g : Ga} {amb a : Int} (h : GuardP f g amb a) : guardB f g amb a = true := by unfold guardB; rw [if_pos h]
theorem guard_no {f : Fu} {g : Ga} {amb a : Int} (h : ¬ GuardP f g amb a) : guardB f g amb a = false := by unfold guardB; rw [if_neg h]
theorem guard_of {f : Fu} {g : Ga} {amb a : Int} (h : guardB f g amb a = true) : GuardP f g amb a := by
  unfold guardB at h
  by_cases hp : GuardP f g amb a
  · exact hp
  · rw [if_neg hp] at h; exact absurd h (by simp)
section
variable {f : Fu} (hf : f.Ok) {g : Ga} (hg : g.Ok) {amb a : Int} (h0 : 0 ≤ a) (h1 : a ≤ 500)
include hf hg h0 h1
theorem guard_cold (h : g.limit - amb < 0) : guardB f g amb a = false := by
  refine guard_no fun hp => ?_
  have hb := blow_range hf h0 h1
  have h2 := hp 0 (by
    rcases Int.lt_or_le f.rating a with h | h
    · right
      have := (hb.2.2.2.2.1 h).2
      have e : ((0 : Nat) : Int) * blowDen f a = 0 := by simp
      omega
    · exact .inl (hb.2.2.2.2.2 h).1)
  rw [rsC_zero] at h2
  omega
theorem guard_never (h : blowDen f a = 0) (hl : 0 ≤ g.limit - amb) : guardB f g amb a = decide (peakI g (cs1 a) (g.limit - amb) ≤ g.limit - amb) := by
  by_cases hp : peakI g (cs1 a) (g.limit - amb) ≤ g.limit - amb
  · rw [decide_eq_true hp]
    refine guard_yes fun s _ => ?_
    have := peak_all hg (cs1_ok h0 h1) hp s
    have h2 : rsC g a s = runSt (warmI g) 0 (ups (cs1 a) s) := rfl
    omega
  · rw [decide_eq_false hp]
    refine guard_no fun hq => hp (peak_within hg (cs1_ok h0 h1) hl fun s => ?_)
    have := hq s (.inl h)
    have h2 : rsC g a s = stU (warmI g) (cs1 a) 0 s := rfl
    omega
theorem guard_warm {s : Nat} (h : blowDen f a = 0 ∨ s * blowDen f a < blowNum f a) (hw : g.limit - amb < rsC g a s) : guardB f g amb a = false :=
  guard_no fun hp => by have := hp s h; omega
theorem guard_stays {s : Nat} (h : rsC g a (s + 1) = rsC g a s) (hw : rsC g a s ≤ g.limit - amb) : guardB f g amb a = true :=
  guard_yes fun t _ => by have := rsC_top hg h0 h1 h t; omega
theorem guard_opens {s : Nat} (hd : blowDen f a ≠ 0) (h : ¬ ((s + 1 : Nat) : Int) * blowDen f a < blowNum f a) (hw : rsC g a s ≤ g.limit - amb) : guardB f g amb a = true := by
  refine guard_yes fun t ht => ?_
  rcases ht with ht | ht
  · exact absurd ht hd
  · have hts : t < s + 1 := by
      rcases Nat.lt_or_ge t (s + 1) with h2 | h2
      · exact h2
      · have hb := blow_range hf h0 h1
        have : ((s + 1 : Nat) : Int) * blowDen f a ≤ (t : Int) * blowDen f a := Int.mul_le_mul_of_nonneg_right (by omega) hb.2.2.1
        omega
    have := rsC_le hg h0 h1 (show t ≤ s by omega)
    omega
end
end Go.Proofs.Ytejjjijaojkohaa
/- A fuse that guards a wire: the walks of both. -/
namespace Go.Proofs.Ytejjjijaojkohaa
open Go.RowKit
set_option linter.unusedVariables false

theorem cyc_oneB {w : World} {k B : Nat} {a s : Int} {t : TypeId} (h : w.heap[k]? = some (.cells #[.int .i64 a, .int .i64 s] t (0, 0))) (hk : k < B) : Cyc w B (.slice (some ⟨k, 0, none⟩) 1 1) [⟨a, s⟩] := by
  refine ⟨_, k, 0, 1, rfl, Nat.le_refl _, .inl ⟨rfl, hk⟩, fun i j hi hj => ?_⟩
  have hi0 : i = 0 := by have : i < 1 := hi; omega
  subst hi0
  rw [cellOf h]
  match j, hj with
  | 0, _ => rfl
  | 1, _ => rfl

set_option maxRecDepth 100000 in
set_option maxHeartbeats 2000000 in
theorem guarded_any (f : Fu) (g : Ga) (amb a : Int) (w : World) (hf : f.Ok) (hg : g.Ok) (hb0 : 0 ≤ amb) (hb1 : amb ≤ 1000) (ha0 : 0 ≤ a) (ha1 : a ≤ 500) :
    Calls Try.prog 99 #[.agg #[.int .i64 f.rating, .int .i64 f.melt], .agg #[.int .i64 g.area, .int .i64 g.ohm, .int .i64 g.heat, .int .i64 g.cool, .int .i64 g.limit], .int .i64 amb, .int .i64 a] w fun e w' => e = .returned (.bool (guardB f g amb a)) ∧ Below w.heap.size w w' := by
  have HF := hide hf
  have HG := hide hg
  have hl0 := hg.limit0
  have hl1 := hg.limit1
  clear hf hg
  by_cases hc : g.limit - amb < 0
  · go_enter Try.func99, Try.ntmps99
    go_wp2
    go_ret
    exact ⟨ret_bool (guard_cold HF.out HG.out ha0 ha1 hc).symm, (by repeat (first | exact Below.refl _ _ | assumption | refine Below.drew ?_ | refine Below.drewN ?_ _ | refine Below.allocT ?_ (Nat.le_refl _) _ | refine Below.setCell ?_ (by simp <;> omega) _ | refine Below.to ?_ (by assumption) (Nat.le_refl _)))⟩
  · have hbr := blow_range HF.out ha0 ha1
    obtain ⟨nu, hnu⟩ : ∃ x, blowNum f a = x := ⟨_, rfl⟩
    obtain ⟨de, hde⟩ : ∃ x, blowDen f a = x := ⟨_, rfl⟩
    rw [hnu, hde] at hbr
    obtain ⟨n0, n1, d0, d1, _, _⟩ := hbr
    have HNU := hide hnu
    have HDE := hide hde
    clear hnu hde
    obtain ⟨li, hli⟩ : ∃ x, g.limit - amb = x := ⟨_, rfl⟩
    have HLI := hide hli
    have hli0 : 0 ≤ li := by omega
    have hli1 : li ≤ 1000 := by omega
    go_enter Try.func99, Try.ntmps99
    go_wp2_with fail
    obtain ⟨w0, hw0⟩ : ∃ w0 : World, (((w.alloc (.cells #[.int .i64 f.rating, .int .i64 f.melt] 30)).alloc (.cells #[.int .i64 g.area, .int .i64 g.ohm, .int .i64 g.heat, .int .i64 g.cool, .int .i64 g.limit] 23)).alloc (.cells #[.int .i64 a, .int .i64 1] 54)).alloc (.cells #[.int .i64 g.area, .int .i64 g.ohm, .int .i64 g.heat, .int .i64 g.cool, .int .i64 g.limit, .int .i64 0] 94) = w0 := ⟨_, rfl⟩
    have hs0 : w0.heap.size = w.heap.size + 4 := by rw [← hw0]; simp
    have hcu : w0.heap[w.heap.size + 2]? = some (.cells #[.int .i64 a, .int .i64 1] 54 (0, 0)) := by rw [← hw0, heap_old _ _ _ (by simp <;> omega), heap_new _ _ _ (by simp)]
    have hwi : WireAt w0 (w.heap.size + 3) g 0 := by unfold WireAt; rw [← hw0, heap_new _ _ _ (by simp)]
    have hB0 : Below w.heap.size w w0 := by rw [← hw0]; exact (by repeat (first | exact Below.refl _ _ | assumption | refine Below.drew ?_ | refine Below.drewN ?_ _ | refine Below.allocT ?_ (Nat.le_refl _) _ | refine Below.setCell ?_ (by simp <;> omega) _ | refine Below.to ?_ (by assumption) (Nat.le_refl _)))
    have HCU := hide hcu
    have HWI := hide hwi
    have HB0 := hide hB0
    rw [hw0]
    clear hcu hwi hw0 hB0 hli
    refine (blow_any f a _ HF.out ha0 ha1).mono ?_
    rw [HNU.out, HDE.out]
    rintro e w1 ⟨rfl, hB1⟩
    have HB1 := hide hB1
    have hs1 : w.heap.size + 4 ≤ w1.heap.size := by have := hB1.size; omega
    clear hB1 hs0
    have HW1 : Hid (Below w.heap.size w w1) := Below.to HB0.out HB1.out (by omega)
    have HWI1 : Hid (WireAt w1 (w.heap.size + 3) g 0) := box_to HWI.out HB1.out
    have HCY1 : Hid (Cyc w1 (w.heap.size + 3) (.slice (some ⟨w.heap.size + 1 + 1, 0, none⟩) 1 1) (cs1 a)) := cyc_oneB (box_to HCU.out HB1.out) (by omega)
    by_cases hd : de = 0
    · have hd1 : (de == 0) = true := by simp [hd]
      have HD : Hid (blowDen f a = 0) := by show _ = _; rw [HDE.out]; exact hd
      clear hd
      obtain ⟨pk, hpk⟩ : ∃ x, peakI g (cs1 a) li = x := ⟨_, rfl⟩
      have HPK := hide hpk
      clear hpk
      go_wp2_with fail
      refine (peak_any (w.heap.size + 1 + 1 + 1) g li _ (cs1 a) w1 HWI1.out (cs1_ok ha0 ha1) HCY1.out HG.out hli0 hli1).mono ?_
      rw [HPK.out]
      rintro e w2 ⟨rfl, hg2⟩
      go_wp2_with fail
      go_ret
      exact ⟨ret_bool (by rw [guard_never HF.out HG.out ha0 ha1 HD.out (by rw [HLI.out]; exact hli0), HLI.out, HPK.out]), below_only HW1.out hg2 (by omega)⟩
    · have hd1 : (de == 0) = false := by simp [hd]
      have HD : Hid (blowDen f a ≠ 0) := by show _ ≠ _; rw [HDE.out]; exact hd
      have hd2 : 1 ≤ de := by omega
      clear hd
      go_wp2_with fail
      go_loopg [14, 15] (li.toNat + 1) (fun m s before wr => ∃ (k : Nat) (x : Int), Hid (m = (li - x + 1).toNat) ∧ s = .int .i64 (k + 1) ∧ (k : Int) ≤ x ∧ x ≤ li ∧ Hid (rsC g a k = x) ∧ Hid (WireAt wr (w.heap.size + 3) g x) ∧ Hid (w1.grownBy wr (some (w.heap.size + 3))))
      case atStart => exact ⟨0, 0, (by show _ = _; omega), rfl, by omega, by omega, rfl, HWI1.out, only_refl _ _⟩
      case round =>
        obtain ⟨k, x, hm, rfl, hkx, hxl, hx, HWR, HGR⟩ := hrel
        obtain ⟨q0, q1⟩ := mul_range (show (0:Int) ≤ (k:Int) + 1 by omega) (show (k:Int) + 1 ≤ 1001 by omega) d0 d1
        by_cases hlt : ((k : Int) + 1) * de < nu
        · obtain ⟨x2, hx2⟩ : ∃ x2, warmI g x a = x2 := ⟨_, rfl⟩
          have hrg := warmI_range g x a HG.out.heat0 HG.out.heat1 HG.out.cool0 HG.out.cool1 (by omega) ha0 ha1
          rw [hx2] at hrg
          obtain ⟨r0, r1⟩ := hrg
          have hx3 : rsC g a (k + 1) = x2 := by rw [rsC_succ, hx.out, hx2]
          have hup := rsC_up HG.out ha0 ha1 k
          rw [hx.out, hx3] at hup
          have HX3 := hide hx3
          have HX2 := hide hx2
          have hb5 : wr.cell? ⟨w.heap.size + 1 + 1 + 1, 5, none⟩ = some (.int .i64 x) := cellOf HWR.out 5
          clear hx2 hx3
          go_wp2_with fail
          refine (wireSecond_any (w.heap.size + 1 + 1 + 1) g x a _ HWR.out HG.out.heat0 HG.out.heat1 HG.out.cool0 HG.out.cool1 (by omega) (by omega) ha0 ha1).mono ?_
          rw [HX2.out]
          rintro e w2 ⟨rfl, hw2, hg2⟩
          have HW2 := hide hw2
          have HG2 : Hid (w1.grownBy w2 (some (w.heap.size + 3))) := only_trans HGR.out hg2
          have hc5 : w2.cell? ⟨w.heap.size + 1 + 1 + 1, 5, none⟩ = some (.int .i64 x2) := cellOf hw2 5
          clear hw2 hg2 hb5
          by_cases hov : li < x2
          · go_wp2_with fail
            go_ret
            exact ⟨ret_bool (guard_warm HF.out HG.out ha0 ha1 (s := k + 1) (.inr (by rw [HDE.out, HNU.out]; exact hlt)) (by rw [HLI.out, HX3.out]; exact hov)).symm, below_only HW1.out HG2.out (by omega)⟩
          · by_cases hst : x2 = x
            · have hst1 : (x2 == x) = true := by simp [hst]
              have HST := hide hst
              clear hst
              go_wp2_with fail
              go_ret
              exact ⟨ret_bool (guard_stays HF.out HG.out ha0 ha1 (s := k) (by rw [HX3.out, hx.out]; exact HST.out) (by rw [HLI.out, hx.out]; exact hxl)).symm, below_only HW1.out HG2.out (by omega)⟩
            · have hst1 : (x2 == x) = false := by simp [hst]
              go_wp2_with fail
              go_roundg ((li - x2 + 1).toNat)
              case rel => exact ⟨k + 1, x2, rfl, by go_num, by omega, by omega, HX3.out, HW2.out, HG2.out⟩
              case measure =>
                rw [hm.out]
                omega
        · go_wp2_with fail
          go_ret
          exact ⟨ret_bool (guard_opens HF.out HG.out ha0 ha1 (s := k) HD.out (by rw [HDE.out, HNU.out, show ((k + 1 : Nat) : Int) = (k : Int) + 1 from by omega]; omega) (by rw [HLI.out, hx.out]; exact hxl)).symm, below_only HW1.out HGR.out (by omega)⟩
end Go.Proofs.Ytejjjijaojkohaa
/- A fuse that guards a wire: the reference's walk, and the least current under which it does not. -/
namespace Go.Proofs.Ytejjjijaojkohaa
open Go.RowKit
set_option linter.unusedVariables false

theorem guard_end {f : Fu} {g : Ga} {amb a : Int} (hf : f.Ok) (h0 : 0 ≤ a) (h1 : a ≤ 500) {k : Nat} (hd : blowDen f a ≠ 0) (h : ¬ (k : Int) * blowDen f a < blowNum f a) (hw : ∀ j : Nat, j < k → rsC g a j + amb ≤ g.limit) : guardB f g amb a = true := by
  refine guard_yes fun t ht => ?_
  rcases ht with ht | ht
  · exact absurd ht hd
  · rcases Nat.lt_or_ge t k with h2 | h2
    · exact hw t h2
    · have hb := blow_range hf h0 h1
      have : (k : Int) * blowDen f a ≤ (t : Int) * blowDen f a := Int.mul_le_mul_of_nonneg_right (by omega) hb.2.2.1
      omega

set_option maxRecDepth 100000 in
set_option maxHeartbeats 2000000 in
theorem rguards_any (f : Fu) (g : Ga) (amb a : Int) (w : World) (hf : f.Ok) (hg : g.Ok) (hb0 : 0 ≤ amb) (hb1 : amb ≤ 1000) (ha0 : 0 ≤ a) (ha1 : a ≤ 500) :
    Calls Try.prog 100 #[.agg #[.int .i64 f.rating, .int .i64 f.melt], .agg #[.int .i64 g.area, .int .i64 g.ohm, .int .i64 g.heat, .int .i64 g.cool, .int .i64 g.limit], .int .i64 amb, .int .i64 a] w fun e w' => e = .returned (.bool (guardB f g amb a)) ∧ Below w.heap.size w w' := by
  have HF := hide hf
  have HG := hide hg
  have hl0 := hg.limit0
  have hl1 := hg.limit1
  have hbr := blow_range hf ha0 ha1
  have hnp : a ≤ f.rating ∨ 1 ≤ blowNum f a := by
    rcases Int.lt_or_le f.rating a with h | h
    · exact .inr (hbr.2.2.2.2.1 h).2
    · exact .inl h
  have hdp : a ≤ f.rating → blowDen f a = 0 := fun h => (hbr.2.2.2.2.2 h).1
  obtain ⟨nu, hnu⟩ : ∃ x, blowNum f a = x := ⟨_, rfl⟩
  obtain ⟨de, hde⟩ : ∃ x, blowDen f a = x := ⟨_, rfl⟩
  rw [hnu, hde] at hbr
  obtain ⟨n0, n1, d0, d1, _, _⟩ := hbr
  have HNU := hide hnu
  have HDE := hide hde
  clear hnu hde hf hg hnp hdp
  go_enter Try.func100, Try.ntmps100
  go_wp2_with fail
  obtain ⟨w0, hw0⟩ : ∃ w0 : World, (w.alloc (.cells #[.int .i64 f.rating, .int .i64 f.melt] 30)).alloc (.cells #[.int .i64 g.area, .int .i64 g.ohm, .int .i64 g.heat, .int .i64 g.cool, .int .i64 g.limit] 23) = w0 := ⟨_, rfl⟩
  have hs0 : w0.heap.size = w.heap.size + 2 := by rw [← hw0]; simp
  have hga : GaugeAt w0 (w.heap.size + 1) g := by unfold GaugeAt; rw [← hw0, heap_new _ _ _ (by simp)]
  have hB0 : Below w.heap.size w w0 := by rw [← hw0]; exact (by repeat (first | exact Below.refl _ _ | assumption | refine Below.drew ?_ | refine Below.drewN ?_ _ | refine Below.allocT ?_ (Nat.le_refl _) _ | refine Below.setCell ?_ (by simp <;> omega) _ | refine Below.to ?_ (by assumption) (Nat.le_refl _)))
  have HGA := hide hga
  have HB0 := hide hB0
  rw [hw0]
  clear hga hw0 hB0
  refine (rblow_any f a _ HF.out ha0 ha1).mono ?_
  rw [HNU.out, HDE.out]
  rintro e w1 ⟨rfl, hB1⟩
  have HGA1 : Hid (GaugeAt w1 (w.heap.size + 1) g) := box_to HGA.out hB1
  have HW1 : Hid (Below w.heap.size w w1) := Below.to HB0.out hB1 (by omega)
  clear hB1 hs0
  go_wp2_with fail
  go_loopg [11, 12, 13] (g.limit.toNat + 1) (fun m rise s _ wr => ∃ (k : Nat) (x : Int), Hid (m = (g.limit + 1 - x).toNat) ∧ rise = .int .i64 x ∧ s = .int .i64 k ∧ (k : Int) ≤ x ∧ x ≤ 100000 ∧ Hid (rsC g a k = x) ∧ Hid (∀ j : Nat, j < k → rsC g a j + amb ≤ g.limit) ∧ Below w1.heap.size w1 wr)
  case atStart => exact ⟨0, 0, (by show _ = _; omega), rfl, rfl, by omega, by omega, rfl, fun j hj => absurd hj (by omega), Below.refl _ _⟩
  case round =>
    obtain ⟨k, x, hm, rfl, rfl, hkx, hxl, hx, hall, hB⟩ := hrel
    have hk0 : (0 : Int) ≤ k := by omega
    obtain ⟨q0, q1⟩ := mul_range hk0 (show (k : Int) ≤ 100000 by omega) d0 d1
    have HGR : Hid (GaugeAt wr (w.heap.size + 1) g) := box_to HGA1.out hB
    obtain ⟨j0, j1, j2, j3, j4, _⟩ := gauge5 HGR.out (Below.refl _ wr)
    have hgo : de = 0 ∨ ¬ de = 0 ∧ (k : Int) * de < nu ∨ ¬ de = 0 ∧ ¬ (k : Int) * de < nu := by omega
    have hWr : Below w.heap.size w wr := HW1.out.trans (hB.mono HW1.out.size)
    have HWR := hide hWr
    clear hWr
    rcases hgo with hd | ⟨hd, hlt⟩ | ⟨hd, hlt⟩
    · have hd1 : (de == 0) = true := by simp [hd]
      have HC : Hid (blowDen f a = 0 ∨ (k : Int) * blowDen f a < blowNum f a) := .inl (by rw [HDE.out]; exact hd)
      clear hd
      by_cases hov : g.limit < x + amb
      · go_wp2_with fail
        go_ret
        exact ⟨ret_bool (guard_no (fun hp => by have := hp k HC.out; rw [hx.out] at this; omega)).symm, HWR.out⟩
      · obtain ⟨x2, hx2⟩ : ∃ x2, warmI g x a = x2 := ⟨_, rfl⟩
        have hrg := warmI_range g x a HG.out.heat0 HG.out.heat1 HG.out.cool0 HG.out.cool1 (by omega) ha0 ha1
        rw [hx2] at hrg
        obtain ⟨r0, r1⟩ := hrg
        have hx3 : rsC g a (k + 1) = x2 := by rw [rsC_succ, hx.out, hx2]
        have hup := rsC_up HG.out ha0 ha1 k
        rw [hx.out, hx3] at hup
        have HX3 := hide hx3
        have HX2 := hide hx2
        clear hx2 hx3
        go_wp2_with fail
        refine (rwarm_any g x a _ HG.out.heat0 HG.out.heat1 HG.out.cool0 HG.out.cool1 (by omega) (by omega) ha0 ha1).mono ?_
        rw [HX2.out]
        rintro e w2 ⟨rfl, hB2⟩
        have HB2 : Hid (Below w1.heap.size w1 w2) := Below.to hB hB2 (Nat.le_refl _)
        clear hB2 j0 j1 j2 j3 j4
        by_cases hst : x2 = x
        · have hst1 : (x2 == x) = true := by simp [hst]
          have HST := hide hst
          clear hst
          go_wp2_with fail
          go_ret
          exact ⟨ret_bool (guard_stays HF.out HG.out ha0 ha1 (s := k) (by rw [HX3.out, hx.out]; exact HST.out) (by rw [hx.out]; omega)).symm, HW1.out.trans (HB2.out.mono HW1.out.size)⟩
        · have hst1 : (x2 == x) = false := by simp [hst]
          go_wp2_with fail
          go_roundg ((g.limit + 1 - x2).toNat)
          case rel => exact ⟨k + 1, x2, rfl, rfl, by go_num, by omega, by omega, HX3.out, (fun j hj => by
              rcases Nat.lt_or_ge j k with h | h
              · exact hall.out j h
              · rw [show j = k from by omega, hx.out]; omega), HB2.out⟩
          case measure =>
            rw [hm.out]
            omega
    · have hd1 : (de == 0) = false := by simp [hd]
      have HC : Hid (blowDen f a = 0 ∨ (k : Int) * blowDen f a < blowNum f a) := .inr (by rw [HDE.out, HNU.out]; exact hlt)
      clear hd
      by_cases hov : g.limit < x + amb
      · go_wp2_with fail
        go_ret
        exact ⟨ret_bool (guard_no (fun hp => by have := hp k HC.out; rw [hx.out] at this; omega)).symm, HWR.out⟩
      · obtain ⟨x2, hx2⟩ : ∃ x2, warmI g x a = x2 := ⟨_, rfl⟩
        have hrg := warmI_range g x a HG.out.heat0 HG.out.heat1 HG.out.cool0 HG.out.cool1 (by omega) ha0 ha1
        rw [hx2] at hrg
        obtain ⟨r0, r1⟩ := hrg
        have hx3 : rsC g a (k + 1) = x2 := by rw [rsC_succ, hx.out, hx2]
        have hup := rsC_up HG.out ha0 ha1 k
        rw [hx.out, hx3] at hup
        have HX3 := hide hx3
        have HX2 := hide hx2
        clear hx2 hx3
        go_wp2_with fail
        refine (rwarm_any g x a _ HG.out.heat0 HG.out.heat1 HG.out.cool0 HG.out.cool1 (by omega) (by omega) ha0 ha1).mono ?_
        rw [HX2.out]
        rintro e w2 ⟨rfl, hB2⟩
        have HB2 : Hid (Below w1.heap.size w1 w2) := Below.to hB hB2 (Nat.le_refl _)
        clear hB2 j0 j1 j2 j3 j4
        by_cases hst : x2 = x
        · have hst1 : (x2 == x) = true := by simp [hst]
          have HST := hide hst
          clear hst
          go_wp2_with fail
          go_ret
          exact ⟨ret_bool (guard_stays HF.out HG.out ha0 ha1 (s := k) (by rw [HX3.out, hx.out]; exact HST.out) (by rw [hx.out]; omega)).symm, HW1.out.trans (HB2.out.mono HW1.out.size)⟩
        · have hst1 : (x2 == x) = false := by simp [hst]
          go_wp2_with fail
          go_roundg ((g.limit + 1 - x2).toNat)
          case rel => exact ⟨k + 1, x2, rfl, rfl, by go_num, by omega, by omega, HX3.out, (fun j hj => by
              rcases Nat.lt_or_ge j k with h | h
              · exact hall.out j h
              · rw [show j = k from by omega, hx.out]; omega), HB2.out⟩
          case measure =>
            rw [hm.out]
            omega
    · have hd1 : (de == 0) = false := by simp [hd]
      have HD : Hid (blowDen f a ≠ 0) := by show _ ≠ _; rw [HDE.out]; exact hd
      have HLT := hide hlt
      clear hd
      go_wp2_with fail
      go_ret
      exact ⟨ret_bool (guard_end HF.out ha0 ha1 HD.out (by rw [HDE.out, HNU.out]; have := HLT.out; omega) hall.out).symm, HWR.out⟩
end Go.Proofs.Ytejjjijaojkohaa
/- The least current under which a fuse does not guard a wire: walks. -/
namespace Go.Proofs.Ytejjjijaojkohaa
open Go.RowKit
set_option linter.unusedVariables false
attribute [local go_sem ↓] Go.wp_at_zero Go.wp_at_succ


set_option maxRecDepth 100000 in
theorem least_ung (p : Int → Bool) (c0 c1 c2 : Value) (w : World) (hf : ∀ (a : Int) (W : World), 0 ≤ a → a ≤ 500 → Below w.heap.size w W → Calls Try.prog 98 #[.int .i64 a, c0, c1, c2] W fun e w' => e = .returned (.bool (p a)) ∧ Below W.heap.size W w') :
    Calls Try.prog 95 #[.func (.func 98) #[] #[c0, c1, c2]] w fun e w' => e = .returned (.int .i64 (leastI p)) ∧ Below w.heap.size w w' := by
  have HF := hide hf; clear hf
  go_enter Try.func95, Try.ntmps95
  go_wp2
  go_loopw [3, 4] (fun _ i wr => ∃ k : Nat, k ≤ 501 ∧ i = .int .i64 k ∧ Hid (∀ j : Nat, j < k → p j = false) ∧ Below w.heap.size w wr) (fun _ i _ => 501 - (intOf i).toNat)
  case atStart => exact ⟨0, by omega, rfl, fun j hj => by omega, Below.refl _ _⟩
  case round =>
    obtain ⟨k, hk, rfl, hz, hB⟩ := hrel
    by_cases hlt : k < 501
    · by_cases hp : p k = true
      · have HP := hide hp
        go_wp2_with (go_at_call 98; refine (HF.out (k : Int) _ (by omega) (by omega) hB).mono ?_; rw [hp]; rintro e w1 ⟨rfl, hB1⟩)
        go_ret
        exact ⟨ret_int (leastI_at p k hz.out hlt HP.out).symm, (by repeat (first | exact Below.refl _ _ | assumption | refine Below.drew ?_ | refine Below.drewN ?_ _ | refine Below.allocT ?_ (Nat.le_refl _) _ | refine Below.setCell ?_ (by simp <;> omega) _ | refine Below.to ?_ (by assumption) (Nat.le_refl _)))⟩
      · have hp' : p k = false := by simpa using hp
        clear hp
        have HP := hide hp'
        go_wp2_with (go_at_call 98; refine (HF.out (k : Int) _ (by omega) (by omega) hB).mono ?_; rw [hp']; rintro e w1 ⟨rfl, hB1⟩)
        go_roundw
        case rel => exact ⟨k + 1, by omega, by go_num, fun j hj => by
            rcases Nat.lt_or_ge j k with h | h
            · exact hz.out j h
            · rw [show j = k from by omega]; exact HP.out, (by repeat (first | exact Below.refl _ _ | assumption | refine Below.drew ?_ | refine Below.drewN ?_ _ | refine Below.allocT ?_ (Nat.le_refl _) _ | refine Below.setCell ?_ (by simp <;> omega) _ | refine Below.to ?_ (by assumption) (Nat.le_refl _)))⟩
        case measure => simp [intOf]; omega
    · go_wp2
      go_ret
      exact ⟨ret_int (leastI_none p (fun j hj => hz.out j (by omega))).symm, (by repeat (first | exact Below.refl _ _ | assumption | refine Below.drew ?_ | refine Below.drewN ?_ _ | refine Below.allocT ?_ (Nat.le_refl _) _ | refine Below.setCell ?_ (by simp <;> omega) _ | refine Below.to ?_ (by assumption) (Nat.le_refl _)))⟩


/-- Under this current the fuse does not guard the wire. -/
noncomputable def ungB (f : Fu) (g : Ga) (amb a : Int) : Bool := !guardB f g amb a

theorem ungClo_any (b3 b4 b5 : Nat) (f : Fu) (g : Ga) (amb a : Int) (w : World) (h3 : FuseAt w b3 f) (h4 : GaugeAt w b4 g) (h5 : w.heap[b5]? = some (.cells #[.int .i64 amb] 3 (0, 0))) (hf : f.Ok) (hg : g.Ok) (hb0 : 0 ≤ amb) (hb1 : amb ≤ 1000) (ha0 : 0 ≤ a) (ha1 : a ≤ 500) :
    Calls Try.prog 98 #[.int .i64 a, .pointer (some ⟨b3, 0, none⟩), .pointer (some ⟨b4, 0, none⟩), .pointer (some ⟨b5, 0, none⟩)] w fun e w' => e = .returned (.bool (ungB f g amb a)) ∧ Below w.heap.size w w' := by
  have HF := hide hf
  have HG := hide hg
  clear hf hg
  obtain ⟨k0, k1, _⟩ := fuse2 h3 (Below.refl _ w)
  obtain ⟨j0, j1, j2, j3, j4, _⟩ := gauge5 h4 (Below.refl _ w)
  have i0 : w.cell? ⟨b5, 0, none⟩ = some (.int .i64 amb) := cellOf h5 0
  clear h3 h4 h5
  go_enter Try.func98, Try.ntmps98
  go_wp2_with fail
  refine (guarded_any f g amb a _ HF.out HG.out hb0 hb1 ha0 ha1).mono ?_
  rintro e w1 ⟨rfl, hB1⟩
  go_wp2_with fail
  go_ret
  exact ⟨rfl, hB1⟩

theorem unguarded_any (f : Fu) (g : Ga) (amb : Int) (w : World) (hf : f.Ok) (hg : g.Ok) (hb0 : 0 ≤ amb) (hb1 : amb ≤ 1000) :
    Calls Try.prog 70 #[.agg #[.int .i64 f.rating, .int .i64 f.melt], .agg #[.int .i64 g.area, .int .i64 g.ohm, .int .i64 g.heat, .int .i64 g.cool, .int .i64 g.limit], .int .i64 amb] w fun e w' => e = .returned (.int .i64 (leastI (ungB f g amb))) ∧ Below w.heap.size w w' := by
  have HF := hide hf
  have HG := hide hg
  clear hf hg
  go_enter Try.func70, Try.ntmps70
  go_wp2_with fail
  obtain ⟨w0, hw0⟩ : ∃ w0 : World, ((w.alloc (.cells #[.int .i64 f.rating, .int .i64 f.melt] 30)).alloc (.cells #[.int .i64 g.area, .int .i64 g.ohm, .int .i64 g.heat, .int .i64 g.cool, .int .i64 g.limit] 23)).alloc (.cells #[.int .i64 amb] 3) = w0 := ⟨_, rfl⟩
  have hfu : FuseAt w0 w.heap.size f := by unfold FuseAt; rw [← hw0, heap_old _ _ _ (by simp <;> omega), heap_old _ _ _ (by simp <;> omega), heap_new _ _ _ rfl]
  have hga : GaugeAt w0 (w.heap.size + 1) g := by unfold GaugeAt; rw [← hw0, heap_old _ _ _ (by simp <;> omega), heap_new _ _ _ (by simp)]
  have ham : w0.heap[w.heap.size + 1 + 1]? = some (.cells #[.int .i64 amb] 3 (0, 0)) := by rw [← hw0, heap_new _ _ _ (by simp)]
  have hB0 : Below w.heap.size w w0 := by rw [← hw0]; exact (by repeat (first | exact Below.refl _ _ | assumption | refine Below.drew ?_ | refine Below.drewN ?_ _ | refine Below.allocT ?_ (Nat.le_refl _) _ | refine Below.setCell ?_ (by simp <;> omega) _ | refine Below.to ?_ (by assumption) (Nat.le_refl _)))
  rw [hw0]
  refine (least_ung (ungB f g amb) _ _ _ w0 (fun a W ha0 ha1 hB => ungClo_any _ _ _ f g amb a W (box_to hfu hB) (box_to hga hB) (box_to ham hB) HF.out HG.out hb0 hb1 ha0 ha1)).mono ?_
  rintro e w1 ⟨rfl, hB1⟩
  go_wp2_with fail
  go_ret
  exact ⟨rfl, Below.to hB0 hB1 (Nat.le_refl _)⟩

set_option maxRecDepth 100000 in
theorem runguarded_any (f : Fu) (g : Ga) (amb : Int) (w : World) (hf : f.Ok) (hg : g.Ok) (hb0 : 0 ≤ amb) (hb1 : amb ≤ 1000) :
    Calls Try.prog 71 #[.agg #[.int .i64 f.rating, .int .i64 f.melt], .agg #[.int .i64 g.area, .int .i64 g.ohm, .int .i64 g.heat, .int .i64 g.cool, .int .i64 g.limit], .int .i64 amb] w fun e w' => e = .returned (.int .i64 (leastI (ungB f g amb))) ∧ Below w.heap.size w w' := by
  have HF := hide hf
  have HG := hide hg
  clear hf hg
  go_enter Try.func71, Try.ntmps71
  go_wp2_with fail
  obtain ⟨w0, hw0⟩ : ∃ w0 : World, (w.alloc (.cells #[.int .i64 f.rating, .int .i64 f.melt] 30)).alloc (.cells #[.int .i64 g.area, .int .i64 g.ohm, .int .i64 g.heat, .int .i64 g.cool, .int .i64 g.limit] 23) = w0 := ⟨_, rfl⟩
  have hfu : FuseAt w0 w.heap.size f := by unfold FuseAt; rw [← hw0, heap_old _ _ _ (by simp <;> omega), heap_new _ _ _ rfl]
  have hga : GaugeAt w0 (w.heap.size + 1) g := by unfold GaugeAt; rw [← hw0, heap_new _ _ _ (by simp)]
  have hB0 : Below w.heap.size w w0 := by rw [← hw0]; exact (by repeat (first | exact Below.refl _ _ | assumption | refine Below.drew ?_ | refine Below.drewN ?_ _ | refine Below.allocT ?_ (Nat.le_refl _) _ | refine Below.setCell ?_ (by simp <;> omega) _ | refine Below.to ?_ (by assumption) (Nat.le_refl _)))
  have HFU := hide hfu
  have HGA := hide hga
  rw [hw0]
  clear hfu hga hw0
  go_loopw [7] (fun i wr => ∃ k : Nat, k ≤ 501 ∧ i = .int .i64 k ∧ Hid (∀ j : Nat, j < k → ungB f g amb j = false) ∧ Below w0.heap.size w0 wr) (fun i _ => 501 - (intOf i).toNat)
  case atStart => exact ⟨0, by omega, rfl, fun j hj => absurd hj (by omega), Below.refl _ _⟩
  case round =>
    obtain ⟨k, hk, rfl, hz, hB⟩ := hrel
    by_cases hlt : k < 501
    · obtain ⟨k0, k1, _⟩ := fuse2 HFU.out hB
      obtain ⟨j0, j1, j2, j3, j4, _⟩ := gauge5 HGA.out hB
      obtain ⟨q, hq⟩ : ∃ q, guardB f g amb k = q := ⟨_, rfl⟩
      have HQ := hide hq
      clear hq
      go_wp2_with fail
      refine (rguards_any f g amb (k : Int) _ HF.out HG.out hb0 hb1 (by omega) (by omega)).mono ?_
      rw [HQ.out]
      rintro e w1 ⟨rfl, hB1⟩
      have HB1 : Hid (Below w0.heap.size w0 w1) := Below.to hB hB1 (Nat.le_refl _)
      clear hB1
      cases q with
      | true =>
        go_wp2_with fail
        go_roundw
        case rel => exact ⟨k + 1, by omega, by go_num, fun j hj => by
            rcases Nat.lt_or_ge j k with h | h
            · exact hz.out j h
            · rw [show j = k from by omega]; unfold ungB; rw [HQ.out]; rfl, HB1.out⟩
        case measure => simp [intOf]; omega
      | false =>
        go_wp2_with fail
        go_ret
        exact ⟨ret_int (leastI_at _ k hz.out hlt (by unfold ungB; rw [HQ.out]; rfl)).symm, Below.to hB0 HB1.out (Nat.le_refl _)⟩
    · go_wp2
      go_ret
      exact ⟨ret_int (leastI_none _ (fun j hj => hz.out j (by omega))).symm, Below.to hB0 hB (Nat.le_refl _)⟩

def grdErr (f : Fu) (g : Ga) (amb : Int) : Int := if f.ok then if g.ok then if fromB amb 0 1000 then 0 else 1 else 70 else 72
noncomputable def grdVal (f : Fu) (g : Ga) (amb : Int) : Int := if f.ok && g.ok && fromB amb 0 1000 then leastI (ungB f g amb) else 0
def gaugeErr (g : Ga) : Int := if g.ok then 0 else 70
theorem checkGaugeE (g : Ga) (w : World) : Calls Try.prog 48 #[.agg #[.int .i64 g.area, .int .i64 g.ohm, .int .i64 g.heat, .int .i64 g.cool, .int .i64 g.limit]] w fun e w' => e = .returned (.int .i64 (gaugeErr g)) ∧ Below w.heap.size w w' := checkGauge_any g w
theorem fuga {w0 w1 : World} {b c : Nat} {f : Fu} {g : Ga} (h : FuseAt w0 b f) (hg : GaugeAt w0 c g) (hB : Below w0.heap.size w0 w1) :
    w1.cell? ⟨b, 0, none⟩ = some (.int .i64 f.rating) ∧ w1.cell? ⟨b, 1, none⟩ = some (.int .i64 f.melt) ∧
    w1.cell? ⟨c, 0, none⟩ = some (.int .i64 g.area) ∧ w1.cell? ⟨c, 1, none⟩ = some (.int .i64 g.ohm) ∧ w1.cell? ⟨c, 2, none⟩ = some (.int .i64 g.heat) ∧ w1.cell? ⟨c, 3, none⟩ = some (.int .i64 g.cool) ∧ w1.cell? ⟨c, 4, none⟩ = some (.int .i64 g.limit) ∧ Below w0.heap.size w0 w1 :=
  ⟨cellOf (box_to h hB) 0, cellOf (box_to h hB) 1, cellOf (box_to hg hB) 0, cellOf (box_to hg hB) 1, cellOf (box_to hg hB) 2, cellOf (box_to hg hB) 3, cellOf (box_to hg hB) 4, hB⟩
end Go.Proofs.Ytejjjijaojkohaa
/- Fits: both walks. -/
namespace Go.Proofs.Ytejjjijaojkohaa
open Go.RowKit
set_option linter.unusedVariables false
set_option linter.unusedSimpArgs false
attribute [local go_sem ↓] Go.wp_at_zero Go.wp_at_succ

def fitErr (g : Ga) (n : Ne) (cs : List Cu) : Int := if g.ok then if needOk n cs then 0 else 71 else 70
def fitVal (g : Ga) (n : Ne) (cs : List Cu) : Bool := g.ok && needOk n cs && fitsB g n cs

theorem Fits_any (g : Ga) (n : Ne) (v : Value) (cs : List Cu) (w : World) (hn : cs.length ≤ 20) (h : Cyc w w.heap.size v cs) :
    Calls Try.prog 33 #[.agg #[.int .i64 g.area, .int .i64 g.ohm, .int .i64 g.heat, .int .i64 g.cool, .int .i64 g.limit], .agg #[v, .int .i64 n.len, .int .i64 n.drop, .int .i64 n.amb]] w fun e w' => e = .returned (.tuple #[.bool (fitVal g n cs), .int .i64 (fitErr g n cs)]) ∧ Below w.heap.size w w' := by
  have H := hide h
  obtain ⟨A0, cap0, rfl⟩ := h.form
  clear h
  obtain ⟨x, hx⟩ : ∃ x, gaugeErr g = x := ⟨_, rfl⟩
  obtain ⟨y, hy⟩ : ∃ y, needErr n cs = y := ⟨_, rfl⟩
  obtain ⟨z, hz⟩ : ∃ z : Int, (if x = 0 then y else x) = z := ⟨_, rfl⟩
  have HX := hide hx
  have HY := hide hy
  have HZ := hide hz
  have HE : Hid (z = fitErr g n cs) := by
    show _ = _
    rw [← hz, ← hx, ← hy]
    unfold gaugeErr needErr fitErr
    cases g.ok <;> cases needOk n cs <;> simp
  clear hx hy hz
  go_enter Try.func33, Try.ntmps33
  go_wp2_with fail
  obtain ⟨w0, hw0⟩ : ∃ w0 : World, (w.alloc (.cells #[.int .i64 g.area, .int .i64 g.ohm, .int .i64 g.heat, .int .i64 g.cool, .int .i64 g.limit] 23)).alloc (.cells #[(.slice A0 cs.length cap0), .int .i64 n.len, .int .i64 n.drop, .int .i64 n.amb] 48) = w0 := ⟨_, rfl⟩
  have hga : GaugeAt w0 w.heap.size g := by unfold GaugeAt; rw [← hw0, heap_old _ _ _ (by simp <;> omega), heap_new _ _ _ rfl]
  have hne : NeedAt w0 (w.heap.size + 1) (.slice A0 cs.length cap0) n := by unfold NeedAt; rw [← hw0, heap_new _ _ _ (by simp)]
  have hB0 : Below w.heap.size w w0 := by rw [← hw0]; exact (by repeat (first | exact Below.refl _ _ | assumption | refine Below.drew ?_ | refine Below.drewN ?_ _ | refine Below.allocT ?_ (Nat.le_refl _) _ | refine Below.setCell ?_ (by simp <;> omega) _ | refine Below.to ?_ (by assumption) (Nat.le_refl _)))
  have HGA := hide hga
  have HNE := hide hne
  have HB0 := hide hB0
  have HC0 : Hid (Cyc w0 w0.heap.size (.slice A0 cs.length cap0) cs) := (H.out.below hB0).more hB0.size
  rw [hw0]
  clear hga hne hw0 hB0
  obtain ⟨k0, k1, k2, k3, k4, k5, k6, k7, k8, _⟩ := nega HGA.out HNE.out (Below.refl _ w0)
  go_region_held3 (fun w' => w'.cell? ⟨w.heap.size, 0, none⟩ = some (.int .i64 g.area) ∧ w'.cell? ⟨w.heap.size, 1, none⟩ = some (.int .i64 g.ohm) ∧ w'.cell? ⟨w.heap.size, 2, none⟩ = some (.int .i64 g.heat) ∧ w'.cell? ⟨w.heap.size, 3, none⟩ = some (.int .i64 g.cool) ∧ w'.cell? ⟨w.heap.size, 4, none⟩ = some (.int .i64 g.limit) ∧ w'.cell? ⟨w.heap.size + 1, 0, none⟩ = some (.slice A0 cs.length cap0) ∧ w'.cell? ⟨w.heap.size + 1, 1, none⟩ = some (.int .i64 n.len) ∧ w'.cell? ⟨w.heap.size + 1, 2, none⟩ = some (.int .i64 n.drop) ∧ w'.cell? ⟨w.heap.size + 1, 3, none⟩ = some (.int .i64 n.amb) ∧ Below w0.heap.size w0 w')
    (exact nega HGA.out HNE.out (by repeat (first | exact Below.refl _ _ | assumption | refine Below.drew ?_ | refine Below.drewN ?_ _ | refine Below.allocT ?_ (Nat.le_refl _) _ | refine Below.setCell ?_ (by simp <;> omega) _ | refine Below.to ?_ (by assumption) (Nat.le_refl _))))
    (first | (go_at_call 48; refine (checkGaugeE _ _).mono ?_; rw [HX.out]; rintro e w1 ⟨rfl, hB⟩)
           | (go_at_call 72; refine (checkNeed_any n _ cs _ hn (HC0.out.up (by repeat (first | exact Below.refl _ _ | assumption | refine Below.drew ?_ | refine Below.drewN ?_ _ | refine Below.allocT ?_ (Nat.le_refl _) _ | refine Below.setCell ?_ (by simp <;> omega) _ | refine Below.to ?_ (by assumption) (Nat.le_refl _))))).mono ?_; rw [HY.out]; rintro e w2 ⟨rfl, hB2⟩)
           | (go_at_call 58; refine (errors2v _ x y z _ (by simp) (by simp) HZ.out).mono ?_; rintro e w3 ⟨rfl, rfl⟩))
  all_goals
    rename_i hHeld
    obtain ⟨j0, j1, j2, j3, j4, j5, j6, j7, j8, j9⟩ := hHeld
    have HJ := hide j9
    clear j9 k0 k1 k2 k3 k4 k5 k6 k7 k8
    by_cases hz0 : z = 0
    · have hok : g.ok = true ∧ needOk n cs = true := by
        have h3 := HE.out
        unfold fitErr at h3
        cases hl : g.ok <;> cases hu : needOk n cs <;> simp [hl, hu, hz0] at h3 ⊢
      have hz1 : (z != 0) = false := by simp [hz0]
      have HZ0 := hide hz0
      have HOK := hide hok
      clear hz0 hok
      go_wp2_with fail
      refine (fits_any g n _ cs _ (Ga.ok_iff.1 HOK.out.1) (needOk_iff.1 HOK.out.2) (HC0.out.up HJ.out)).mono ?_
      rintro e w9 ⟨rfl, hB9⟩
      go_wp2_with fail
      go_ret2
      exact ⟨by simp [fitVal, fitErr, HOK.out.1, HOK.out.2], Below.to (Below.to HB0.out HJ.out (Nat.le_refl _)) hB9 (Nat.le_refl _)⟩
    · have hz1 : (z != 0) = true := by simp [hz0]
      have hno : fitVal g n cs = false := by
        have h3 := HE.out
        unfold fitErr at h3
        unfold fitVal
        cases hl : g.ok <;> cases hu : needOk n cs <;> simp [hl, hu] at h3 ⊢
        exact absurd h3 hz0
      have HNO := hide hno
      clear hz0 hno
      go_wp2
      go_ret2
      exact ⟨by rw [HNO.out, ← HE.out]; rfl, Below.to HB0.out HJ.out (Nat.le_refl _)⟩

theorem rFits_any (g : Ga) (n : Ne) (v : Value) (cs : List Cu) (w : World) (hn : cs.length ≤ 20) (h : Cyc w w.heap.size v cs) :
    Calls Try.prog 34 #[.agg #[.int .i64 g.area, .int .i64 g.ohm, .int .i64 g.heat, .int .i64 g.cool, .int .i64 g.limit], .agg #[v, .int .i64 n.len, .int .i64 n.drop, .int .i64 n.amb]] w fun e w' => e = .returned (.tuple #[.bool (fitVal g n cs), .int .i64 (fitErr g n cs)]) ∧ Below w.heap.size w w' := by
  have H := hide h
  obtain ⟨A0, cap0, rfl⟩ := h.form
  clear h
  go_enter Try.func34, Try.ntmps34
  go_wp2_with fail
  obtain ⟨w0, hw0⟩ : ∃ w0 : World, (w.alloc (.cells #[.int .i64 g.area, .int .i64 g.ohm, .int .i64 g.heat, .int .i64 g.cool, .int .i64 g.limit] 23)).alloc (.cells #[(.slice A0 cs.length cap0), .int .i64 n.len, .int .i64 n.drop, .int .i64 n.amb] 48) = w0 := ⟨_, rfl⟩
  have hga : GaugeAt w0 w.heap.size g := by unfold GaugeAt; rw [← hw0, heap_old _ _ _ (by simp <;> omega), heap_new _ _ _ rfl]
  have hne : NeedAt w0 (w.heap.size + 1) (.slice A0 cs.length cap0) n := by unfold NeedAt; rw [← hw0, heap_new _ _ _ (by simp)]
  have hB0 : Below w.heap.size w w0 := by rw [← hw0]; exact (by repeat (first | exact Below.refl _ _ | assumption | refine Below.drew ?_ | refine Below.drewN ?_ _ | refine Below.allocT ?_ (Nat.le_refl _) _ | refine Below.setCell ?_ (by simp <;> omega) _ | refine Below.to ?_ (by assumption) (Nat.le_refl _)))
  have HGA := hide hga
  have HNE := hide hne
  have HB0 := hide hB0
  have HC0 : Hid (Cyc w0 w0.heap.size (.slice A0 cs.length cap0) cs) := (H.out.below hB0).more hB0.size
  rw [hw0]
  clear hga hne hw0 hB0
  refine (gauge_any g _).mono ?_
  rintro e w1 ⟨rfl, hB1⟩
  have HB1 := hide hB1
  clear hB1
  obtain ⟨k0, k1, k2, k3, k4, k5, k6, k7, k8, _⟩ := nega HGA.out HNE.out HB1.out
  cases hf : g.ok with
  | false =>
    go_wp2_with fail
    go_ret2
    exact ⟨by simp [fitVal, fitErr, hf], Below.to HB0.out HB1.out (Nat.le_refl _)⟩
  | true =>
    have HF := hide hf
    go_wp2_with fail
    refine (rneed_any n _ cs _ hn (HC0.out.up HB1.out)).mono ?_
    rintro e w2 ⟨rfl, hB2⟩
    have HB2 := hide (Below.to HB1.out hB2 (Nat.le_refl _))
    clear hB2 k0 k1 k2 k3 k4 k5 k6 k7 k8
    obtain ⟨k0, k1, k2, k3, k4, k5, k6, k7, k8, _⟩ := nega HGA.out HNE.out HB2.out
    cases hg : needOk n cs with
    | false =>
      go_wp2_with fail
      go_ret2
      exact ⟨by simp [fitVal, fitErr, HF.out, hg], Below.to HB0.out HB2.out (Nat.le_refl _)⟩
    | true =>
      have HG := hide hg
      go_wp2_with fail
      refine (rfits_any g n _ cs _ (Ga.ok_iff.1 HF.out) (needOk_iff.1 HG.out) (HC0.out.up HB2.out)).mono ?_
      rintro e w9 ⟨rfl, hB9⟩
      go_wp2_with fail
      go_ret2
      exact ⟨by simp [fitVal, fitErr, HF.out, HG.out], Below.to (Below.to HB0.out HB2.out (Nat.le_refl _)) hB9 (Nat.le_refl _)⟩
end Go.Proofs.Ytejjjijaojkohaa
/- Regions that draw their order where several operations make memory: a law by what each operation leaves, whatever comes up first. No condition. -/
namespace Go.Proofs.Ytejjjijaojkohaa
open Go.RowKit

/-- The frame with the values tv in the slots of the operations js. -/
def putAll (a : Act) (dst : Nat → Tmp) (tv : Nat → Value) : List Nat → Act
  | [] => a
  | j :: r => putAll (a.put (some (dst j)) (tv j)) dst tv r
def updV (tv : Nat → Value) (j : Nat) (v : Value) : Nat → Value := fun k => if k = j then v else tv k
theorem updV_self (tv : Nat → Value) (j : Nat) (v : Value) : updV tv j v j = v := by simp [updV]
theorem updV_ne (tv : Nat → Value) {j k : Nat} (v : Value) (h : k ≠ j) : updV tv j v k = tv k := by simp [updV, h]
theorem putAll_congr (dst : Nat → Tmp) {tv tv' : Nat → Value} : ∀ (J : List Nat) (a : Act), (∀ j ∈ J, tv j = tv' j) → putAll a dst tv J = putAll a dst tv' J
  | [], _, _ => rfl
  | j :: r, a, h => by
    unfold putAll
    rw [h j (List.mem_cons_self ..)]
    exact putAll_congr dst r _ fun k hk => h k (List.mem_cons_of_mem _ hk)
theorem putAll_out (dst : Nat → Tmp) (tv : Nat → Value) (t : Tmp) (v : Value) : ∀ (J : List Nat) (a : Act), (∀ j ∈ J, dst j ≠ t) → (putAll a dst tv J).put (some t) v = putAll (a.put (some t) v) dst tv J
  | [], _, _ => rfl
  | j :: r, a, h => by
    unfold putAll
    rw [putAll_out dst tv t v r _ fun k hk => h k (List.mem_cons_of_mem _ hk)]
    rw [Act.put_comm a (tv j) v (fun d hd => by
      injection hd with hd
      intro he
      injection he with he
      exact h j (List.mem_cons_self ..) (by rw [hd, he]))]
theorem put_put (a : Act) (t : Tmp) (u v : Value) : (a.put (some t) u).put (some t) v = a.put (some t) v := by
  simp [Act.put]
theorem putAll_put (dst : Nat → Tmp) (tv : Nat → Value) (j : Nat) (v : Value) : ∀ (J : List Nat) (a : Act), j ∈ J → J.Nodup → (∀ x ∈ J, ∀ y ∈ J, dst x = dst y → x = y) → (putAll a dst tv J).put (some (dst j)) v = putAll a dst (updV tv j v) J
  | [], _, h, _, _ => by cases h
  | k :: r, a, h, hn, hd => by
    obtain ⟨hk, hr⟩ := List.nodup_cons.1 hn
    by_cases e : j = k
    · subst e
      show (putAll (a.put (some (dst j)) (tv j)) dst tv r).put (some (dst j)) v = putAll (a.put (some (dst j)) (updV tv j v j)) dst (updV tv j v) r
      rw [putAll_out dst tv (dst j) v r _ (fun x hx he => hk (by rw [← hd x (List.mem_cons_of_mem _ hx) j (List.mem_cons_self ..) he]; exact hx)), put_put, updV_self]
      exact putAll_congr dst r _ fun x hx => (updV_ne tv v (fun hxj => hk (by rw [← hxj]; exact hx))).symm
    · have hm : j ∈ r := by
        rcases List.mem_cons.1 h with h | h
        · exact absurd h e
        · exact h
      show (putAll (a.put (some (dst k)) (tv k)) dst tv r).put (some (dst j)) v = putAll (a.put (some (dst k)) (updV tv j v k)) dst (updV tv j v) r
      rw [updV_ne tv v (fun hkj => e hkj.symm)]
      exact putAll_put dst tv j v r _ hm hr fun x hx y hy => hd x (List.mem_cons_of_mem _ hx) y (List.mem_cons_of_mem _ hy)

/-- What the law asks of the region's text: each operation of J waits only for earlier ones, of J or listed already; each other operation that is left waits for all of J. -/
def freeOk (md : Region.Mode) (ops : Array Oper) (listed : Array Bool) (J : List Nat) : Bool :=
  J.all (fun j => !listed.getD j true && ((ops[j]?).map (fun o => o.after.all fun e => !Region.binds md e || (decide (e.on < j) && (listed.getD e.on false || J.contains e.on)))).getD false) &&
  (List.range ops.size).all (fun k => listed.getD k true || J.contains k || ((ops[k]?).map (fun o => J.all fun j => o.after.any fun e => Region.binds md e && e.on == j)).getD false)
def listAll (listed : Array Bool) : List Nat → Array Bool
  | [] => listed
  | j :: r => listAll (listed.setIfInBounds j true) r
theorem listAll_size : ∀ (J : List Nat) (l : Array Bool), (listAll l J).size = l.size
  | [], _ => rfl
  | j :: r, l => by unfold listAll; rw [listAll_size r]; simp
theorem listAll_get : ∀ (J : List Nat) (l : Array Bool) (k : Nat), k < l.size → (listAll l J)[k]? = some (l.getD k false || J.contains k)
  | [], l, k, h => by simp [listAll, h]
  | j :: r, l, k, h => by
    unfold listAll
    rw [listAll_get r _ k (by simpa using h)]
    by_cases e : j = k
    · subst e; simp [h]
    · have : (k == j) = false := by simpa using fun h => e h.symm
      rw [getD_set_ne false e]
      simp only [List.contains_cons, this, Bool.false_or]

section
variable {P : Program} {ops : Array Oper} {Q : Exit → Act → World → Prop} {md : Region.Mode} {S : World → Prop}

theorem wpAnyH_free (J : List Nat) (dst : Nat → Tmp) (R : Nat → Value → World → Prop) (listed0 : Array Bool) (a0 : Act) (fe : Nat)
    (hok : freeOk md ops listed0 J = true) (hsz : listed0.size = ops.size) (hnd : J.Nodup) (hdst : ∀ x ∈ J, ∀ y ∈ J, dst x = dst y → x = y)
    (hkeep : ∀ j ∈ J, ∀ v w w', Below w.heap.size w w' → R j v w → R j v w')
    (hstep : ∀ j ∈ J, ∀ (tv : Nat → Value) (w : World), S w → (∀ o, ops[j]? = some o → ∀ e ∈ o.after, Region.binds md e = true → e.on ∈ J → R e.on (tv e.on) w) →
      wpOp P ops Q j (fun a' w' => (∃ v, a' = (putAll a0 dst tv J).put (some (dst j)) v ∧ R j v w') ∧ Below w.heap.size w w' ∧ S w') (putAll a0 dst tv J) w)
    (hend : ∀ (tv : Nat → Value) (w : World), S w → (∀ j ∈ J, R j (tv j) w) → wpAnyH P md ops Q S fe (listAll listed0 J) (putAll a0 dst tv J) w) :
    ∀ (m : Nat) (listed : Array Bool) (tv : Nat → Value) (w : World), (J.filter fun j => !listed.getD j true).length = m → listed.size = ops.size →
      (∀ k, k ∉ J → listed[k]? = listed0[k]?) → S w → (∀ j ∈ J, listed.getD j true = true → R j (tv j) w) → wpAnyH P md ops Q S (m + fe) listed (putAll a0 dst tv J) w := by
  have hok' := hok
  unfold freeOk at hok'
  rw [Bool.and_eq_true, List.all_eq_true, List.all_eq_true] at hok'
  obtain ⟨hJ, hrest⟩ := hok'
  have hlt : ∀ j ∈ J, j < ops.size := fun j hj => by
    have := hJ j hj
    rcases Nat.lt_or_ge j ops.size with h | h
    · exact h
    · simp [Array.getElem?_eq_none h] at this
  intro m
  induction m with
  | zero =>
    intro listed tv w hm hls hout hS hR
    have hall : ∀ j ∈ J, listed.getD j true = true := fun j hj => by
      have h0 : J.filter (fun j => !listed.getD j true) = [] := List.eq_nil_of_length_eq_zero hm
      rw [List.filter_eq_nil_iff] at h0
      simpa using h0 j hj
    have he : listed = listAll listed0 J := by
      apply Array.ext_getElem?
      intro k
      rcases Nat.lt_or_ge k listed.size with h | h
      · rw [listAll_get J listed0 k (by omega)]
        by_cases hk : k ∈ J
        · have := hall k hk
          simp [h] at this
          simp [h, this, hk]
        · rw [hout k hk]
          have h2 : k < listed0.size := by omega
          simp [h2, hk]
      · rw [Array.getElem?_eq_none h, Array.getElem?_eq_none (by rw [listAll_size]; omega)]
    rw [Nat.zero_add, he]
    exact hend tv w hS fun j hj => hR j hj (hall j hj)
  | succ m ih =>
    intro listed tv w hm hls hout hS hR
    rw [show m + 1 + fe = (m + fe) + 1 by omega]
    have hready : ∀ i ∈ Region.ready md ops listed, i ∈ J := by
      intro i hi
      obtain ⟨h0, o, ho, hd⟩ := mem_ready.1 hi
      have hio : i < ops.size := (Array.getElem?_eq_some_iff.1 ho).1
      have h1 := hrest i (by simpa using hio)
      by_cases hiJ : i ∈ J
      · exact hiJ
      · exfalso
        have hi0 : listed0.getD i true = false := by
          have : listed0[i]? = listed[i]? := (hout i hiJ).symm
          simp only [Array.getD_eq_getD_getElem?, this] at h0 ⊢
          exact h0
        rw [hi0] at h1
        simp [hiJ, ho] at h1
        have h2 : ∀ j ∈ J, listed.getD j false = true := fun j hj => by
          obtain ⟨n, hn, hb, hon⟩ := h1 j hj
          have := hd _ (Array.getElem_mem hn) hb
          rw [hon] at this
          exact this
        have h3 : J.filter (fun j => !listed.getD j true) = [] := by
          rw [List.filter_eq_nil_iff]
          intro j hj
          have h4 := h2 j hj
          have h5 : j < listed.size := by have := hlt j hj; omega
          simp [h5] at h4
          simp [h5, h4]
        rw [h3] at hm
        simp at hm
    refine ⟨fun hno => ?_, fun i hi => ?_⟩
    · exfalso
      have hex : ∃ j, j ∈ J ∧ listed.getD j true = false := by
        rcases hf : J.filter (fun j => !listed.getD j true) with _ | ⟨j, r⟩
        · rw [hf] at hm; simp at hm
        · have : j ∈ J.filter (fun j => !listed.getD j true) := by rw [hf]; exact List.mem_cons_self ..
          rw [List.mem_filter] at this
          exact ⟨j, this.1, by simpa using this.2⟩
      have hmin : ∀ n j, j ∈ J → listed.getD j true = false → j ≤ n → False := by
        intro n
        induction n with
        | zero =>
          intro j hj hl hn
          have hjJ := hJ j hj
          obtain ⟨o, ho⟩ : ∃ o, ops[j]? = some o := ⟨_, Array.getElem?_eq_getElem (hlt j hj)⟩
          have : j ∈ Region.ready md ops listed := mem_ready.2 ⟨hl, o, ho, fun e he hb => by
            simp only [ho, Option.map_some, Option.getD_some, Bool.and_eq_true, Array.all_eq_true_iff_forall_mem] at hjJ
            have := hjJ.2 e he
            simp [hb] at this
            omega⟩
          rw [hno] at this
          cases this
        | succ n ihn =>
          intro j hj hl hn
          have hjJ := hJ j hj
          obtain ⟨o, ho⟩ : ∃ o, ops[j]? = some o := ⟨_, Array.getElem?_eq_getElem (hlt j hj)⟩
          have : j ∈ Region.ready md ops listed := mem_ready.2 ⟨hl, o, ho, fun e he hb => by
            simp only [ho, Option.map_some, Option.getD_some, Bool.and_eq_true, Array.all_eq_true_iff_forall_mem] at hjJ
            have h6 := hjJ.2 e he
            rw [hb] at h6
            simp only [Bool.not_true, Bool.false_or, Bool.and_eq_true, decide_eq_true_eq, Bool.or_eq_true] at h6
            obtain ⟨h7, h8⟩ := h6
            have hes : e.on < listed.size := by have := hlt j hj; omega
            by_cases hJe : e.on ∈ J
            · cases hg : listed.getD e.on true with
              | true =>
                simp [hes] at hg ⊢
                exact hg
              | false => exact absurd (ihn e.on hJe hg (by omega)) id
            · rcases h8 with h8 | h8
              · have : listed0[e.on]? = listed[e.on]? := (hout _ hJe).symm
                simp only [Array.getD_eq_getD_getElem?, this] at h8 ⊢
                exact h8
              · exact absurd (by simpa using h8) hJe⟩
          rw [hno] at this
          cases this
      obtain ⟨j, hj, hl⟩ := hex
      exact hmin j j hj hl (Nat.le_refl _)
    · have hiJ := hready i hi
      obtain ⟨h0, o, ho, hd⟩ := mem_ready.1 hi
      have hil : i < listed.size := by have := hlt i hiJ; omega
      refine wpOp_mono ?_ (hstep i hiJ tv w hS (fun o' ho' e he hb hon => hR e.on hon (by
        rw [ho] at ho'
        injection ho' with ho'
        subst ho'
        have h9 := hd e he hb
        have h10 : e.on < listed.size := by have := hlt _ hon; omega
        simp [h10] at h9 ⊢
        exact h9)))
      rintro a' w' ⟨⟨v, rfl, hv⟩, hB, hS'⟩
      refine ⟨hS', ?_⟩
      rw [putAll_put dst tv i v J a0 hiJ hnd hdst]
      refine ih (listed.setIfInBounds i true) (updV tv i v) w' ?_ (by simpa using hls) ?_ hS' ?_
      · have hcount : ∀ L : List Nat, L.Nodup → i ∈ L → (L.filter fun j => !listed.getD j true).length = (L.filter fun j => !(listed.setIfInBounds i true).getD j true).length + 1 := by
          intro L
          induction L with
          | nil => intro _ h; cases h
          | cons x r ihr =>
            intro hn hx
            obtain ⟨hx1, hx2⟩ := List.nodup_cons.1 hn
            by_cases e : i = x
            · subst e
              have hsame : r.filter (fun j => !(listed.setIfInBounds i true).getD j true) = r.filter (fun j => !listed.getD j true) := by
                apply List.filter_congr
                intro y hy
                rw [getD_set_ne true (fun h => hx1 (by rw [h]; exact hy))]
              have hset : (listed.setIfInBounds i true).getD i true = true := by simp [hil]
              rw [List.filter_cons, List.filter_cons, h0, hset, hsame]
              simp
            · have hxr : i ∈ r := by
                rcases List.mem_cons.1 hx with h | h
                · exact absurd h e
                · exact h
              have := ihr hx2 hxr
              rw [List.filter_cons, List.filter_cons, getD_set_ne true e]
              cases listed.getD x true with
              | true => exact this
              | false =>
                show (x :: _).length = (x :: _).length + 1
                rw [List.length_cons, List.length_cons, this]
        have := hcount J hnd hiJ
        omega
      · intro k hk
        rw [← hout k hk]
        exact Array.getElem?_setIfInBounds_ne (fun h => hk (by rw [← h]; exact hiJ))
      · intro j hj hl
        by_cases e : j = i
        · subst e
          rw [updV_self]
          exact hv
        · rw [updV_ne tv v e]
          refine hkeep j hj _ _ _ hB (hR j hj ?_)
          rw [getD_set_ne true (fun h => e h.symm)] at hl
          exact hl

/-- Operation j waits for operation k. -/
def waitsFor (md : Region.Mode) (ops : Array Oper) (j k : Nat) : Bool := ((ops[j]?).map (fun o => o.after.any fun e => Region.binds md e && e.on == k)).getD false
theorem putAll_self (a : Act) (dst : Nat → Tmp) (tv : Nat → Value) : ∀ (J : List Nat), (∀ j ∈ J, dst j < a.tmps.size ∧ tv j = a.tmps.getD (dst j) undef) → putAll a dst tv J = a
  | [], _ => rfl
  | j :: r, h => by
    obtain ⟨h1, h2⟩ := h j (List.mem_cons_self ..)
    unfold putAll
    rw [show a.put (some (dst j)) (tv j) = a by
      rw [h2]
      unfold Act.put
      show { a with tmps := a.tmps.setIfInBounds (dst j) (a.tmps.getD (dst j) undef) } = a
      have : a.tmps.setIfInBounds (dst j) (a.tmps.getD (dst j) undef) = a.tmps := by
        apply Array.ext_getElem?
        intro k
        by_cases e : dst j = k
        · subst e; simp [h1]
        · rw [Array.getElem?_setIfInBounds_ne e]
      rw [this]]
    exact putAll_self a dst tv r fun k hk => h k (List.mem_cons_of_mem _ hk)

/-- The law, from the frame as it stands. -/
theorem wpAnyH_start {fuel : Nat} {listed0 : Array Bool} {a0 : Act} {w0 : World} (J : List Nat) (dst : Nat → Tmp) (R : Nat → Value → World → Prop) (fe : Nat) (hf : fuel = J.length + fe)
    (hok : freeOk md ops listed0 J = true) (hsz : listed0.size = ops.size) (hnd : J.Nodup) (hdst : ∀ x ∈ J, ∀ y ∈ J, dst x = dst y → x = y) (hlt : (J.all fun j => decide (dst j < a0.tmps.size)) = true) (hS0 : S w0)
    (hkeep : ∀ j ∈ J, ∀ v w w', Below w.heap.size w w' → R j v w → R j v w')
    (hstep : ∀ j ∈ J, ∀ (tv : Nat → Value) (w : World), S w → (∀ k ∈ J, waitsFor md ops j k = true → R k (tv k) w) →
      wpOp P ops Q j (fun a' w' => (∃ v, a' = (putAll a0 dst tv J).put (some (dst j)) v ∧ R j v w') ∧ Below w.heap.size w w' ∧ S w') (putAll a0 dst tv J) w)
    (hend : ∀ (tv : Nat → Value) (w : World), S w → (∀ j ∈ J, R j (tv j) w) → wpAnyH P md ops Q S fe (listAll listed0 J) (putAll a0 dst tv J) w) : wpAnyH P md ops Q S fuel listed0 a0 w0 := by
  subst hf
  have hun : ∀ j ∈ J, listed0.getD j true = false := fun j hj => by
    have h := hok
    unfold freeOk at h
    rw [Bool.and_eq_true, List.all_eq_true] at h
    have := h.1 j hj
    rw [Bool.and_eq_true] at this
    simpa using this.1
  have hme := putAll_self a0 dst (fun j => a0.tmps.getD (dst j) undef) J fun j hj => ⟨by
    rw [List.all_eq_true] at hlt
    simpa using hlt j hj, rfl⟩
  have hcount : (J.filter fun j => !listed0.getD j true).length = J.length := by
    rw [List.filter_eq_self.2]
    intro j hj
    rw [hun j hj]
    rfl
  have := wpAnyH_free J dst R listed0 a0 fe hok hsz hnd hdst hkeep (fun j hj tv w hS hd => hstep j hj tv w hS fun k hk hw => by
      unfold waitsFor at hw
      cases ho : ops[j]? with
      | none => rw [ho] at hw; cases hw
      | some o =>
        rw [ho] at hw
        simp only [Option.map_some, Option.getD_some, Array.any_eq_true] at hw
        obtain ⟨n, hn, hb⟩ := hw
        rw [Bool.and_eq_true, beq_iff_eq] at hb
        have h2 := hd o ho _ (Array.getElem_mem hn) hb.1 (by rw [hb.2]; exact hk)
        rw [hb.2] at h2
        exact h2) hend J.length listed0 (fun j => a0.tmps.getD (dst j) undef) w0 hcount hsz (fun _ _ => rfl) hS0 (fun j hj hl => by rw [hun j hj] at hl; cases hl)
  rw [hme] at this
  exact this
end
end Go.Proofs.Ytejjjijaojkohaa
/- An append onto a slice without room that was just made: the new slice lies in new memory, and nothing that was there has changed. No condition. -/
namespace Go.Proofs.Ytejjjijaojkohaa
open Go.RowKit

section
variable {P : Program} (w : World)
theorem run_append_fresh (base : Nat) (t ty e : TypeId) (i : TypeInfo) (z : Value) (size bytes : Nat) (ht : P.underlying t = some (.slice e)) (hi : P.info? e = some i) (hz : i.zero = some z)
    (hsize : i.size = size) (hby : i.bytes = bytes) (hzs : z.cells.size = size) (hsz : 0 < size)
    (g : Nat) (hown : w.ownsRow base e size (.slice (some ⟨g, 0, none⟩) 0 0) 0 [])
    (B : Nat) (A : Option Addr) (m c : Nat) (news : List Value) (hr : Reads w B size A m news) (h1 : ∀ u ∈ news, u.oneCell' = true)
    (h63 : m ≤ maxLen) (hbytes : m * bytes ≤ 140737488355328) (hbase : base ≤ w.heap.size) :
    ∃ v' w', (Builtin.append_ #[t, t] ty #[.slice (some ⟨g, 0, none⟩) 0 0, .slice A m c]).run P w = .ok v' w' ∧ w'.ownsRow base e size v' m news ∧ Below w.heap.size w w' := by
  have hsmall : m ≤ 9223372036854775807 := by simp only [maxLen] at h63; omega
  rcases Nat.eq_zero_or_pos m with h0 | h0
  · subst h0
    have hn : news = [] := List.eq_nil_of_length_eq_zero (by simpa using hr.1)
    subst hn
    refine ⟨_, w, ?_, hown, Below.refl _ _⟩
    cases A <;> simp [Builtin.append_, run_underlying ht, sizeOf, typeInfo, hi, Builtin.lenOf, Builtin.firstCells, loadCells, loadCellsFrom, storeCells]
  · obtain ⟨ad, hA, _, hcells⟩ := hr.2 h0
    subst hA
    obtain ⟨v', w', hrun, hown', _⟩ := run_append_own_at (P := P) w base t ty e i z size bytes ht hi hz hsize hby hzs hsz _ 0 [] hown ad m c news hr.1 hcells h1 (by omega) (by simpa using hbytes) hbase
    subst hsize
    subst hby
    have hg := run_append_grow (P := P) w t ty e i z ht hi hz ⟨g, 0, none⟩ 0 0 [] (by simp) (by simp) ad m c news hr.1 hcells (by omega) (by omega) (growslice_fits (by omega) (by simpa using hbytes))
    rw [hrun] at hg
    injection hg with hv hw
    refine ⟨v', w', hrun, by simpa using hown', ?_⟩
    rw [hw]
    exact Below.allocT (Below.drew (Below.refl _ _)) (Nat.le_refl _) _

theorem step_append_fresh {ops : Array Oper} {o : Oper} {a : Act} {K : Act → World → Prop} {Q : Exit → Act → World → Prop} {E : Prop} (hgd : o.guard = none) (s x : Operand) (t : TypeId)
    (ho : o.op = .call { callee := .builtin .append, args := #[s, x], argTypes := #[t, t] })
    (base : Nat) (e : TypeId) (i : TypeInfo) (z : Value) (size bytes : Nat) (ht : P.underlying t = some (.slice e)) (hi : P.info? e = some i) (hz : i.zero = some z)
    (hsize : i.size = size) (hby : i.bytes = bytes) (hzs : z.cells.size = size) (hsz : 0 < size)
    (g : Nat) (hs : a.eval s = .slice (some ⟨g, 0, none⟩) 0 0) (hown : w.ownsRow base e size (.slice (some ⟨g, 0, none⟩) 0 0) 0 [])
    (B : Nat) (A : Option Addr) (m c : Nat) (news : List Value) (hx : a.eval x = .slice A m c) (hr : Reads w B size A m news) (h1 : ∀ u ∈ news, u.oneCell' = true)
    (h63 : m ≤ maxLen) (hbytes : m * bytes ≤ 140737488355328) (hbase : base ≤ w.heap.size)
    (h : ∀ v' w', w'.ownsRow base e size v' m news → Below w.heap.size w w' → K (a.put o.dst v') w') :
    if Region.wanted o (yielded ops a.tmps) = true then Oper.wp P o a w K Q else E := by
  have hw : Region.wanted o (yielded ops a.tmps) = true := by simp [Region.wanted, hgd]
  rw [if_pos hw]
  obtain ⟨v', w', hrun, h2, h3⟩ := run_append_fresh (P := P) w base t o.type e i z size bytes ht hi hz hsize hby hzs hsz g hown B A m c news hr h1 h63 hbytes hbase
  unfold Oper.wp execOp
  simp only [ho, resolve, invoke, builtin, Sem.run_bind, Sem.run_pure, Result.andThen_ok, List.map_toArray, List.map_cons, List.map_nil, hs, hx, hrun]
  exact h v' w' h2 h3
end
theorem owns_below {w w' : World} {base e size n : Nat} {v : Value} {xs : List Value} (h : w.ownsRow base e size v n xs) (hb : Below w.heap.size w w') : w'.ownsRow base e size v n xs := by
  obtain ⟨h1, h2 | ⟨g, cap, cur, h3, h4, h5, h6⟩⟩ := h
  · exact ⟨h1, .inl h2⟩
  · exact ⟨h1, .inr ⟨g, cap, cur, h3, h4, (hb.block g (Array.getElem?_eq_some_iff.1 h5).1).trans h5, h6⟩⟩
theorem heap_below {w w' : World} {g : Nat} {o : Obj} (h : w.heap[g]? = some o) (hb : Below w.heap.size w w') : w'.heap[g]? = some o :=
  (hb.block g (Array.getElem?_eq_some_iff.1 h).1).trans h
theorem owns_base {w : World} {base base' e size n : Nat} {v : Value} {xs : List Value} (h : w.ownsRow base e size v n xs) (hb : base' ≤ base) : w.ownsRow base' e size v n xs := by
  obtain ⟨h1, h2 | ⟨g, cap, cur, h3, h4, h5⟩⟩ := h
  · exact ⟨h1, .inl h2⟩
  · exact ⟨h1, .inr ⟨g, cap, cur, h3, Nat.le_trans hb h4, h5⟩⟩
/-- A cell of another block than the one that was written. -/
theorem gcell {w w' : World} {g : Nat} (h : w.grownBy w' (some g)) : ∀ b o, b < w.heap.size → b ≠ g → w'.cell? ⟨b, o, none⟩ = w.cell? ⟨b, o, none⟩ :=
  fun b o hb hg => World.cell?_of_block (a := ⟨b, o, none⟩) (h.block b hb (fun e => hg (by injection e)))
theorem grown_of_below {w w' : World} {row : Option Nat} (h : Below w.heap.size w w') : w.grownBy w' row := ⟨h.os, h.tape, h.output, h.size, fun k hk _ => h.block k hk⟩
theorem owns_grown {w w' : World} {base e size n g t : Nat} {C : Array Value} {v : Value} {xs : List Value} (h : w.ownsRow base e size v n xs) (hg : w.grownBy w' (some g)) (ht : w.heap[g]? = some (.cells C t (0, 0))) (hne : e ≠ t) : w'.ownsRow base e size v n xs := by
  obtain ⟨h1, h2 | ⟨b, cap, cur, h3, h4, h5, h6⟩⟩ := h
  · exact ⟨h1, .inl h2⟩
  · exact ⟨h1, .inr ⟨b, cap, cur, h3, h4, (hg.block b (Array.getElem?_eq_some_iff.1 h5).1 (fun e' => by
      injection e' with e'
      subst e'
      rw [h5] at ht
      injection ht with ht
      injection ht with _ ht
      exact hne ht)).trans h5, h6⟩⟩
theorem alloc2 {w w0 : World} {o p : Obj} (h : (w.alloc o).alloc p = w0) : w0.heap[w.heap.size]? = some o ∧ w0.heap[w.heap.size + 1]? = some p ∧ Below w.heap.size w w0 ∧ w0.heap.size = w.heap.size + 2 := by
  subst h
  refine ⟨?_, ?_, Below.allocT (Below.allocT (Below.refl _ _) (Nat.le_refl _) _) (Nat.le_refl _) _, by simp⟩
  · rw [show ((w.alloc o).alloc p).heap[w.heap.size]? = (w.alloc o).heap[w.heap.size]? from Below.heap_alloc _ _ _ (by simp)]
    exact heap_alloc_new w o
  · have := heap_alloc_new (w.alloc o) p
    simpa using this
end Go.Proofs.Ytejjjijaojkohaa
/- A need copied: a walk. -/
namespace Go.Proofs.Ytejjjijaojkohaa
open Go.RowKit
set_option linter.unusedVariables false
set_option linter.unusedSimpArgs false

theorem owns_keep {w w' : World} {base e size n : Nat} {v : Value} {xs : List Value} (h : w.ownsRow base e size v n xs) (hk : ∀ g, base ≤ g → w'.heap[g]? = w.heap[g]?) : w'.ownsRow base e size v n xs := by
  obtain ⟨h1, h2 | ⟨g, cap, cur, h3, h4, h5, h6⟩⟩ := h
  · exact ⟨h1, .inl h2⟩
  · exact ⟨h1, .inr ⟨g, cap, cur, h3, h4, (hk g h4).trans h5, h6⟩⟩

set_option maxRecDepth 100000 in
theorem copyNeed_own (n : Ne) (v : Value) (cs : List Cu) (w : World) (hn : cs.length ≤ 20) (h : Cyc w w.heap.size v cs) :
    Calls Try.prog 32 #[.agg #[v, .int .i64 n.len, .int .i64 n.drop, .int .i64 n.amb]] w fun e w' => ∃ v', e = .returned (.agg #[v', .int .i64 n.len, .int .i64 n.drop, .int .i64 n.amb]) ∧ w'.ownsRow w.heap.size 54 2 v' cs.length (flat cs.length 2 (cyF cs)) ∧ Below w.heap.size w w' := by
  obtain ⟨i0, hi0, hz0, hz1, hz2⟩ := info_parts infoCu
  have H := hide h
  obtain ⟨A, cap, rfl⟩ := h.form
  clear h
  go_enter Try.func32, Try.ntmps32
  go_upto_region 1 with (fail)
  obtain ⟨w0, hw0⟩ : ∃ w0 : World, (w.alloc (.cells #[(.slice A cs.length cap), .int .i64 n.len, .int .i64 n.drop, .int .i64 n.amb] 48)).alloc (.cells #[.slice none 0 0, .int .i64 0, .int .i64 0, .int .i64 0] 48) = w0 := ⟨_, rfl⟩
  have hs0 : w0.heap.size = w.heap.size + 2 := by rw [← hw0]; simp
  have hne : NeedAt w0 w.heap.size (.slice A cs.length cap) n := by unfold NeedAt; rw [← hw0, heap_old _ _ _ (by simp <;> omega), heap_new _ _ _ rfl]
  have hze : w0.heap[w.heap.size + 1]? = some (.cells #[.slice none 0 0, .int .i64 0, .int .i64 0, .int .i64 0] 48 (0, 0)) := by rw [← hw0, heap_new _ _ _ (by simp)]
  have hB0 : Below w.heap.size w w0 := by rw [← hw0]; exact (by repeat (first | exact Below.refl _ _ | assumption | refine Below.drew ?_ | refine Below.drewN ?_ _ | refine Below.allocT ?_ (Nat.le_refl _) _ | refine Below.setCell ?_ (by simp <;> omega) _ | refine Below.to ?_ (by assumption) (Nat.le_refl _)))
  have HNE := hide hne
  have HZE := hide hze
  have HB0 := hide hB0
  have HC0 : Hid (Cyc w0 w0.heap.size (.slice A cs.length cap) cs) := (H.out.below hB0).more hB0.size
  rw [hw0]
  obtain ⟨k0, k1, k2, k3, _⟩ := need4 hne (Below.refl _ w0)
  have kk0 : (w0.alloc (.cells #[] 54)).cell? ⟨w.heap.size, 0, none⟩ = some (.slice A cs.length cap) := cellOf ((heap_old _ _ _ (by omega)).trans HNE.out) 0
  have HS0 := hide hs0
  clear hne hze hB0 hw0 hs0
  go_wp2_with (at_builtin; refine wpList_append_any _ rfl (.tmp 3) (.tmp 5) _ rfl w0.heap.size 54 i0 _ 2 16 Try.underlying31 hi0 hz0 hz1 hz2 rfl (by omega) (.slice (some ⟨w0.heap.size, 0, none⟩) 0 0) 0 [] rfl (World.ownsRow_made w0 #[] 0 (Nat.le_refl _) (by unfold maxLen; omega) rfl) w0.heap.size A cs.length cap (flat cs.length 2 (cyF cs)) rfl ((HC0.out.reads (by omega)).alloc (Nat.le_refl _) _) (flat_one (by omega) (cyF_one cs)) (by unfold maxLen; omega) (by omega) (by simp) ?_; intro v1 w1 hown1 hg1 hat1; have hW1 : Below w0.heap.size w0 w1 := (Below.allocT (Below.refl _ w0) (Nat.le_refl _) _).grown hg1 (by simp) (fun k e => by simp [Value.ownBlock] at e; omega); have HW1 := hide hW1; have hn1 := box_to HNE.out hW1; have hf1 : w1.frozen? ⟨w.heap.size, 0, none⟩ = false := unfrozenOf hn1 0; obtain ⟨l0, l1, l2, l3, _⟩ := need4 hn1 (Below.refl _ w1); have hz1' := box_to HZE.out hW1; have z0 := cellOf hz1' 0; have z1 := cellOf hz1' 1; have z2 := cellOf hz1' 2; have z3 := cellOf hz1' 3; have y0 := unfrozenOf hz1' 0; have y1 := unfrozenOf hz1' 1; have y2 := unfrozenOf hz1' 2; have y3 := unfrozenOf hz1' 3; rw [Nat.zero_add, List.nil_append] at hown1; have hS1 : Cyc w1 w1.heap.size v1 cs := Sl.of_owns hown1 (fun i j hi hj => flat_get hi hj); obtain ⟨A1, c1, rfl⟩ := hS1.form; have HO1 := hide hown1; have HN1 := hide hn1; have HZ1 := hide hz1'; clear hS1 hn1 hz1' hown1)
  obtain ⟨wz, hwz⟩ : ∃ wz : World, (((((w1.setCell ⟨w.heap.size, 0, none⟩ (.slice A1 cs.length c1)).setCell ⟨w.heap.size + 1, 0, none⟩ (.slice A1 cs.length c1)).setCell ⟨w.heap.size + 1, 1, none⟩ (.int .i64 n.len)).setCell ⟨w.heap.size + 1, 2, none⟩ (.int .i64 n.drop)).setCell ⟨w.heap.size + 1, 3, none⟩ (.int .i64 n.amb)) = wz := ⟨_, rfl⟩
  have hs0 := HS0.out
  have hZ : NeedAt wz (w.heap.size + 1) (.slice A1 cs.length c1) n := by
    rw [← hwz]
    exact setCellOf (setCellOf (setCellOf (setCellOf ((Below.heap_setCell _ _ _ _ (by simp)).trans HZ1.out) _) _) _) _
  have hO : wz.ownsRow w0.heap.size 54 2 (.slice A1 cs.length c1) cs.length (flat cs.length 2 (cyF cs)) := owns_keep HO1.out fun g hg => by
    rw [← hwz]
    iterate 5 rw [Below.heap_setCell _ _ _ _ (by simp <;> omega)]
  have hBz : Below w.heap.size w wz := by
    rw [← hwz]
    exact Below.setCell (Below.setCell (Below.setCell (Below.setCell (Below.setCell (Below.to HB0.out HW1.out (by omega)) (by simp) _) (by simp) _) (by simp) _) (by simp) _) (by simp) _
  rw [hwz]
  obtain ⟨m0, m1, m2, m3, _⟩ := need4 hZ (Below.refl _ wz)
  refine bodyPost_ret (v := .agg #[(.slice A1 cs.length c1), .int .i64 n.len, .int .i64 n.drop, .int .i64 n.amb]) ?_ rfl ⟨_, rfl, owns_base hO (by omega), hBz⟩
  rw [results_cell1 rfl]
  go_simp
theorem copyNeed_any (n : Ne) (v : Value) (cs : List Cu) (w : World) (hn : cs.length ≤ 20) (h : Cyc w w.heap.size v cs) :
    Calls Try.prog 32 #[.agg #[v, .int .i64 n.len, .int .i64 n.drop, .int .i64 n.amb]] w fun e w' => ∃ v', e = .returned (.agg #[v', .int .i64 n.len, .int .i64 n.drop, .int .i64 n.amb]) ∧ Cyc w' w'.heap.size v' cs ∧ Below w.heap.size w w' :=
  (copyNeed_own n v cs w hn h).mono fun _ _ ⟨v', he, ho, hb⟩ => ⟨v', he, Sl.of_owns ho (fun i j hi hj => flat_get hi hj), hb⟩
end Go.Proofs.Ytejjjijaojkohaa

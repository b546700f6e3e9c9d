/- Selective fuses: walks. -/
import Derived.Test.YtejjjijaojkohaaRows
import Derived.Test.YtejjjijaojkohaaW10
namespace Go.Proofs.Ytejjjijaojkohaa
open Go.RowKit
set_option linter.unusedVariables false

/-- Block b holds a fuse's two numbers. -/
def FuseAt (w : World) (b : Nat) (f : Fu) : Prop := w.heap[b]? = some (.cells #[.int .i64 f.rating, .int .i64 f.melt] 30 (0, 0))

theorem selClo_any (b2 b3 : Nat) (lo up : Fu) (a : Int) (w : World) (h2 : FuseAt w b2 lo) (h3 : FuseAt w b3 up) (hl : lo.Ok) (hu : up.Ok) (ha0 : 0 ≤ a) (ha1 : a ≤ 500) :
    Calls Try.prog 96 #[.int .i64 a, .pointer (some ⟨b2, 0, none⟩), .pointer (some ⟨b3, 0, none⟩)] w fun e w' => e = .returned (.bool (selB lo up a)) ∧ Below w.heap.size w w' := by
  obtain ⟨n1, n2, n3, n4, _, _⟩ := blow_range hl ha0 ha1
  obtain ⟨m1, m2, m3, m4, _, _⟩ := blow_range hu ha0 ha1
  have HL := hide hl
  have HU := hide hu
  clear hl hu
  obtain ⟨na, hna⟩ : ∃ x, blowNum lo a = x := ⟨_, rfl⟩
  obtain ⟨da, hda⟩ : ∃ x, blowDen lo a = x := ⟨_, rfl⟩
  obtain ⟨nb, hnb⟩ : ∃ x, blowNum up a = x := ⟨_, rfl⟩
  obtain ⟨db, hdb⟩ : ∃ x, blowDen up a = x := ⟨_, rfl⟩
  have HS : Hid (selB lo up a = (decide (0 < db) && (decide (da = 0) || decide (nb * da ≤ na * db)))) := by
    show _ = _
    rw [← hna, ← hda, ← hnb, ← hdb]; rfl
  rw [hna] at n1 n2
  rw [hda] at n3 n4
  rw [hnb] at m1 m2
  rw [hdb] at m3 m4
  have HNA := hide hna
  have HDA := hide hda
  have HNB := hide hnb
  have HDB := hide hdb
  clear hna hda hnb hdb
  obtain ⟨p1, p2⟩ := mul_range n1 n2 m3 m4
  obtain ⟨p3, p4⟩ := mul_range m1 m2 n3 n4
  rw [HS.out]
  have H2 := hide h2
  have H3 := hide h3
  have c0 := cellOf h2 0
  have c1 := cellOf h2 1
  clear h2 h3
  by_cases hc : 0 < db
  · by_cases hd : da = 0
    · have hd' : (da == 0) = true := by simp [hd]
      have HD := hide hd
      clear hd
      go_enter Try.func96, Try.ntmps96
      go_wp2_with fail
      refine (blow_any lo a _ HL.out ha0 ha1).mono ?_
      rw [HNA.out, HDA.out]
      rintro e w1 ⟨rfl, hB1⟩
      have h3 := box_to H3.out hB1
      have d0 := cellOf h3 0
      have d1 := cellOf h3 1
      clear h3
      go_wp2_with fail
      refine (blow_any up a _ HU.out ha0 ha1).mono ?_
      rw [HNB.out, HDB.out]
      rintro e w2 ⟨rfl, hB2⟩
      go_wp2_with fail
      go_ret
      exact ⟨ret_bool (by simp [hc, HD.out]), (by repeat (first | exact Below.refl _ _ | assumption | refine Below.drew ?_ | refine Below.drewN ?_ _ | refine Below.allocT ?_ (Nat.le_refl _) _ | refine Below.setCell ?_ (by simp <;> omega) _ | refine Below.to ?_ (by assumption) (Nat.le_refl _)))⟩
    · have hd' : (da == 0) = false := by simp [hd]
      go_enter Try.func96, Try.ntmps96
      go_wp2_with fail
      refine (blow_any lo a _ HL.out ha0 ha1).mono ?_
      rw [HNA.out, HDA.out]
      rintro e w1 ⟨rfl, hB1⟩
      have h3 := box_to H3.out hB1
      have d0 := cellOf h3 0
      have d1 := cellOf h3 1
      clear h3
      go_wp2_with fail
      refine (blow_any up a _ HU.out ha0 ha1).mono ?_
      rw [HNB.out, HDB.out]
      rintro e w2 ⟨rfl, hB2⟩
      go_wp2_with fail
      go_ret
      exact ⟨ret_bool (by simp [hc, hd]), (by repeat (first | exact Below.refl _ _ | assumption | refine Below.drew ?_ | refine Below.drewN ?_ _ | refine Below.allocT ?_ (Nat.le_refl _) _ | refine Below.setCell ?_ (by simp <;> omega) _ | refine Below.to ?_ (by assumption) (Nat.le_refl _)))⟩
  · go_enter Try.func96, Try.ntmps96
    go_wp2_with fail
    refine (blow_any lo a _ HL.out ha0 ha1).mono ?_
    rw [HNA.out, HDA.out]
    rintro e w1 ⟨rfl, hB1⟩
    have h3 := box_to H3.out hB1
    have d0 := cellOf h3 0
    have d1 := cellOf h3 1
    clear h3
    go_wp2_with fail
    refine (blow_any up a _ HU.out ha0 ha1).mono ?_
    rw [HNB.out, HDB.out]
    rintro e w2 ⟨rfl, hB2⟩
    go_wp2_with fail
    go_ret
    exact ⟨ret_bool (by simp [show ¬ 0 < db by omega]), (by repeat (first | exact Below.refl _ _ | assumption | refine Below.drew ?_ | refine Below.drewN ?_ _ | refine Below.allocT ?_ (Nat.le_refl _) _ | refine Below.setCell ?_ (by simp <;> omega) _ | refine Below.to ?_ (by assumption) (Nat.le_refl _)))⟩

theorem selective_any (lo up : Fu) (w : World) (hl : lo.Ok) (hu : up.Ok) :
    Calls Try.prog 63 #[.agg #[.int .i64 lo.rating, .int .i64 lo.melt], .agg #[.int .i64 up.rating, .int .i64 up.melt]] w fun e w' => e = .returned (.int .i64 (leastI (selB lo up))) ∧ Below w.heap.size w w' := by
  have HL := hide hl
  have HU := hide hu
  clear hl hu
  go_enter Try.func63, Try.ntmps63
  go_wp2_with (go_at_call 95; refine (least_sel (selB lo up) _ _ _ (fun a W ha0 ha1 hB => selClo_any _ _ lo up a W ((hB.block _ (by simp; omega)).trans ((heap_old _ _ _ (by simp)).trans (heap_new _ _ _ rfl))) ((hB.block _ (by simp)).trans (heap_new _ _ _ (by simp))) HL.out HU.out ha0 ha1)).mono ?_; rintro e w1 ⟨rfl, hB1⟩)
  go_ret
  exact ⟨rfl, (by repeat (first | exact Below.refl _ _ | assumption | refine Below.drew ?_ | refine Below.drewN ?_ _ | refine Below.allocT ?_ (Nat.le_refl _) _ | refine Below.setCell ?_ (by simp <;> omega) _ | refine Below.to ?_ (by assumption) (Nat.le_refl _)))⟩

theorem selB_ref (lo up : Fu) (a : Int) (hb : 0 ≤ blowDen lo a) : selB lo up a = (decide (0 < blowDen up a) && !(decide (blowDen lo a ≠ 0 ∧ (blowDen up a = 0 ∨ blowNum lo a * blowDen up a < blowNum up a * blowDen lo a)))) := by
  unfold selB
  by_cases h1 : 0 < blowDen up a <;> by_cases h2 : blowDen lo a = 0 <;> by_cases h3 : blowNum up a * blowDen lo a ≤ blowNum lo a * blowDen up a
  all_goals simp [h1, h2, h3]
  all_goals first | omega | simp_all

set_option maxRecDepth 100000 in
theorem rselective_any (lo up : Fu) (w : World) (hl : lo.Ok) (hu : up.Ok) :
    Calls Try.prog 64 #[.agg #[.int .i64 lo.rating, .int .i64 lo.melt], .agg #[.int .i64 up.rating, .int .i64 up.melt]] w fun e w' => e = .returned (.int .i64 (leastI (selB lo up))) ∧ Below w.heap.size w w' := by
  have HL := hide hl
  have HU := hide hu
  clear hl hu
  go_enter Try.func64, Try.ntmps64
  go_wp2
  obtain ⟨w0, hw0⟩ : ∃ w0 : World, (w.alloc (.cells #[.int .i64 lo.rating, .int .i64 lo.melt] 30)).alloc (.cells #[.int .i64 up.rating, .int .i64 up.melt] 30) = w0 := ⟨_, rfl⟩
  have hb2 : FuseAt w0 w.heap.size lo := by
    unfold FuseAt; rw [← hw0, heap_old _ _ _ (by simp), heap_new _ _ _ rfl]
  have hb3 : FuseAt w0 (w.heap.size + 1) up := by
    unfold FuseAt; rw [← hw0, heap_new _ _ _ (by simp)]
  have hB0 : Below w.heap.size w w0 := by rw [← hw0]; exact (by repeat (first | exact Below.refl _ _ | assumption | refine Below.drew ?_ | refine Below.drewN ?_ _ | refine Below.allocT ?_ (Nat.le_refl _) _ | refine Below.setCell ?_ (by simp <;> omega) _ | refine Below.to ?_ (by assumption) (Nat.le_refl _)))
  have HB2 := hide hb2
  have HB3 := hide hb3
  rw [hw0]
  clear hb2 hb3 hw0
  go_loopw [5, 6, 7, 8, 9] (fun i _ _ _ _ wr => ∃ k : Nat, k ≤ 501 ∧ i = .int .i64 k ∧ Hid (∀ j : Nat, j < k → selB lo up j = false) ∧ Below w0.heap.size w0 wr) (fun i _ _ _ _ _ => 501 - (intOf i).toNat)
  case atStart => exact ⟨0, by omega, rfl, fun j hj => by omega, Below.refl _ _⟩
  case round =>
    obtain ⟨k, hk, rfl, hz, hB⟩ := hrel
    by_cases hlt : k < 501
    · have hk0 : (0 : Int) ≤ k := by omega
      have hk1 : (k : Int) ≤ 500 := by omega
      obtain ⟨n1, n2, n3, n4, _, _⟩ := blow_range HL.out hk0 hk1
      obtain ⟨m1, m2, m3, m4, _, _⟩ := blow_range HU.out hk0 hk1
      have HS := hide (selB_ref lo up k n3)
      obtain ⟨na, hna⟩ : ∃ x, blowNum lo k = x := ⟨_, rfl⟩
      obtain ⟨da, hda⟩ : ∃ x, blowDen lo k = x := ⟨_, rfl⟩
      obtain ⟨nb, hnb⟩ : ∃ x, blowNum up k = x := ⟨_, rfl⟩
      obtain ⟨db, hdb⟩ : ∃ x, blowDen up k = x := ⟨_, rfl⟩
      rw [hna] at n1 n2
      rw [hda] at n3 n4
      rw [hnb] at m1 m2
      rw [hdb] at m3 m4
      have HS2 : Hid (selB lo up k = (decide (0 < db) && !(decide (da ≠ 0 ∧ (db = 0 ∨ na * db < nb * da))))) := by
        show _ = _
        rw [HS.out, hna, hda, hnb, hdb]
      have HNA := hide hna
      have HDA := hide hda
      have HNB := hide hnb
      have HDB := hide hdb
      clear hna hda hnb hdb HS
      have h2 := (hB.block _ (box_lt HB2.out)).trans HB2.out
      have h3 := (hB.block _ (box_lt HB3.out)).trans HB3.out
      have c0 := cellOf h2 0
      have c1 := cellOf h2 1
      have H3 := hide h3
      clear h2 h3
      by_cases hc : 0 < db
      · obtain ⟨q, hq⟩ : ∃ q, decide (da ≠ 0 ∧ (db = 0 ∨ na * db < nb * da)) = q := ⟨_, rfl⟩
        have HQ := hide hq
        clear hq
        cases q with
        | true =>
          go_wp2_with fail
          refine (rblow_any lo k _ HL.out hk0 hk1).mono ?_
          rw [HNA.out, HDA.out]
          rintro e w1 ⟨rfl, hB1⟩
          have h3 := box_to H3.out hB1
          have d0 := cellOf h3 0
          have d1 := cellOf h3 1
          clear h3
          go_wp2_with fail
          refine (rblow_any up k _ HU.out hk0 hk1).mono ?_
          rw [HNB.out, HDB.out]
          rintro e w2 ⟨rfl, hB2⟩
          go_wp2_with fail
          refine (earlier_any na da nb db _ n1 n3 m1 m3 n2 (by omega) m2 (by omega)).mono ?_
          rw [HQ.out]
          rintro e w3 ⟨rfl, hB3⟩
          go_wp2_with fail
          go_roundw
          case rel => exact ⟨k + 1, by omega, by go_num, fun j hj => by
              rcases Nat.lt_or_ge j k with h | h
              · exact hz.out j h
              · rw [show j = k from by omega, HS2.out, HQ.out]; simp, (by repeat (first | exact Below.refl _ _ | assumption | refine Below.drew ?_ | refine Below.drewN ?_ _ | refine Below.allocT ?_ (Nat.le_refl _) _ | refine Below.setCell ?_ (by simp <;> omega) _ | refine Below.to ?_ (by assumption) (Nat.le_refl _)))⟩
          case measure => simp [intOf]; omega
        | false =>
          go_wp2_with fail
          refine (rblow_any lo k _ HL.out hk0 hk1).mono ?_
          rw [HNA.out, HDA.out]
          rintro e w1 ⟨rfl, hB1⟩
          have h3 := box_to H3.out hB1
          have d0 := cellOf h3 0
          have d1 := cellOf h3 1
          clear h3
          go_wp2_with fail
          refine (rblow_any up k _ HU.out hk0 hk1).mono ?_
          rw [HNB.out, HDB.out]
          rintro e w2 ⟨rfl, hB2⟩
          go_wp2_with fail
          refine (earlier_any na da nb db _ n1 n3 m1 m3 n2 (by omega) m2 (by omega)).mono ?_
          rw [HQ.out]
          rintro e w3 ⟨rfl, hB3⟩
          go_wp2_with fail
          go_ret
          have hBw : Below w.heap.size w wr := hB0.trans (hB.mono hB0.size)
          exact ⟨ret_int (leastI_at _ k hz.out hlt (by rw [HS2.out, HQ.out]; simp [hc])).symm, (by repeat (first | exact Below.refl _ _ | assumption | refine Below.drew ?_ | refine Below.drewN ?_ _ | refine Below.allocT ?_ (Nat.le_refl _) _ | refine Below.setCell ?_ (by simp <;> omega) _ | refine Below.to ?_ (by assumption) (Nat.le_refl _)))⟩
      · go_wp2_with fail
        refine (rblow_any lo k _ HL.out hk0 hk1).mono ?_
        rw [HNA.out, HDA.out]
        rintro e w1 ⟨rfl, hB1⟩
        have h3 := box_to H3.out hB1
        have d0 := cellOf h3 0
        have d1 := cellOf h3 1
        clear h3
        go_wp2_with fail
        refine (rblow_any up k _ HU.out hk0 hk1).mono ?_
        rw [HNB.out, HDB.out]
        rintro e w2 ⟨rfl, hB2⟩
        go_wp2_with fail
        go_roundw
        case rel => exact ⟨k + 1, by omega, by go_num, fun j hj => by
            rcases Nat.lt_or_ge j k with h | h
            · exact hz.out j h
            · rw [show j = k from by omega, HS2.out]; simp [show ¬ 0 < db by omega], (by repeat (first | exact Below.refl _ _ | assumption | refine Below.drew ?_ | refine Below.drewN ?_ _ | refine Below.allocT ?_ (Nat.le_refl _) _ | refine Below.setCell ?_ (by simp <;> omega) _ | refine Below.to ?_ (by assumption) (Nat.le_refl _)))⟩
        case measure => simp [intOf]; omega
    · go_wp2
      go_ret
      exact ⟨ret_int (leastI_none _ (fun j hj => hz.out j (by omega))).symm, hB0.trans (hB.mono hB0.size)⟩
end Go.Proofs.Ytejjjijaojkohaa

/- Fuses that hold: the reference's walk; Holds. -/
import Derived.Test.YtejjjijaojkohaaRows
import Derived.Test.YtejjjijaojkohaaW16
namespace Go.Proofs.Ytejjjijaojkohaa
open Go.RowKit
set_option linter.unusedVariables false

set_option maxRecDepth 100000 in
set_option maxHeartbeats 2000000 in
theorem rholds_any (f : Fu) (v : Value) (cs : List Cu) (w : World) (hf : f.Ok) (hok : cycOk cs = true) (h : Cyc w w.heap.size v cs) :
    Calls Try.prog 62 #[.agg #[.int .i64 f.rating, .int .i64 f.melt], v] w fun e w' => e = .returned (.bool (holdsB f cs)) ∧ Below w.heap.size w w' := by
  have H := hide h
  obtain ⟨A0, cap0, rfl⟩ := h.form
  clear h
  have HF := hide hf
  have HOK := hide hok
  obtain ⟨p3, p4⟩ := mul_range hf.rating0 hf.rating1 hf.rating0 hf.rating1
  have hm0 := hf.melt0
  have hm1 := hf.melt1
  clear hf hok
  go_enter Try.func62, Try.ntmps62
  go_wp2_with fail
  refine (seconds_any _ cs _ HOK.out ((H.out.below (by repeat (first | exact Below.refl _ _ | assumption | refine Below.drew ?_ | refine Below.drewN ?_ _ | refine Below.allocT ?_ (Nat.le_refl _) _ | refine Below.setCell ?_ (by simp <;> omega) _ | refine Below.to ?_ (by assumption) (Nat.le_refl _)))).more (by simp))).mono ?_
  rintro e w3 ⟨v3, rfl, hown, hB3⟩
  have hGb := box_at hB3
  have hW3 : Below w.heap.size w w3 := (by repeat (first | exact Below.refl _ _ | assumption | refine Below.drew ?_ | refine Below.drewN ?_ _ | refine Below.allocT ?_ (Nat.le_refl _) _ | refine Below.setCell ?_ (by simp <;> omega) _ | refine Below.to ?_ (by assumption) (Nat.le_refl _)))
  have hs3 := box_lt hGb
  have hposN := secsN_pos HOK.out
  have hleN := secsN_le HOK.out
  obtain ⟨A, b, off, cap, hv3, hcp, hA, hc⟩ := Ints.of_owns hown
  have HC := hide hc; clear hc
  have HA := hide hA; clear hA
  have HGB := hide hGb; clear hGb
  rw [hv3]
  clear hB3 hv3 hcp hown
  go_wp2
  go_loopw [6, 7] (fun sum s wr => ∃ (k : Nat) (x : Int), k ≤ secsN cs ∧ s = .int .i64 k ∧ sum = .int .i64 x ∧ Hid (sumU f cs k = x) ∧ Below w3.heap.size w3 wr) (fun _ s _ => secsN cs - (intOf s).toNat)
  case atStart => exact ⟨0, 0, Nat.zero_le _, rfl, rfl, rfl, Below.refl _ _⟩
  case round =>
    obtain ⟨k, x, hk, rfl, rfl, hx, hB⟩ := hrel
    have hxr := sumU_range HF.out HOK.out k
    rw [hx.out] at hxr
    obtain ⟨hx0, hx1⟩ := hxr
    by_cases hlt : k < secsN cs
    · obtain ⟨z, hz, hA1, hA2, hcz⟩ := intAt (k := k) hB HA.out HC.out hlt
      subst hA1
      have hGr := (hB.block _ hs3).trans HGB.out
      have q0 := cellOf hGr 0
      clear hGr
      have hz2 : ampAt cs k = z := (ampAt_lt hlt).trans hz.out
      have hzr := ampAt_range HOK.out k
      rw [hz2] at hzr
      obtain ⟨hz3, hz4⟩ := hzr
      have HZ2 := hide hz2
      clear hz2
      obtain ⟨p1, p2⟩ := mul_range hz3 hz4 hz3 hz4
      go_wp2
      go_region
      go_wp2
      go_roundw
      case rel => exact ⟨k + 1, x + z * z - f.rating * f.rating, by omega, by go_num, congrArg (Value.int IntKind.i64) (by first | rfl | omega), (by show _ = _; rw [show sumU f cs (k + 1) = sumU f cs k + ampAt cs k * ampAt cs k - f.rating * f.rating from rfl, hx.out, HZ2.out]), (by repeat (first | exact Below.refl _ _ | assumption | refine Below.drew ?_ | refine Below.drewN ?_ _ | refine Below.allocT ?_ (Nat.le_refl _) _ | refine Below.setCell ?_ (by simp <;> omega) _ | refine Below.to ?_ (by assumption) (Nat.le_refl _)))⟩
      case measure => simp [intOf]; omega
    · have hkN : k = secsN cs := by omega
      subst hkN
      by_cases hpos : 0 < x
      · go_wp2
        go_ret
        exact ⟨ret_bool (holds_sum (by rw [hx.out]; exact hpos)).symm, hW3.trans (hB.mono hW3.size)⟩
      · have hle : x ≤ 0 := by omega
        have HLE := hide (show sumU f cs (secsN cs) ≤ 0 by rw [hx.out]; exact hle)
        go_wp2
        obtain ⟨wo, hwo⟩ : ∃ wo : World, wo = wr := ⟨_, rfl⟩
        go_loopw [8, 9, 10] (fun heat s _ wr => ∃ (k : Nat) (x : Int), k ≤ 2 * secsN cs ∧ s = .int .i64 k ∧ heat = .int .i64 x ∧ Hid (stU (heatI f) cs 0 k = x) ∧ 0 ≤ x ∧ x < f.melt ∧ Hid (∀ j : Nat, j < k → stU (heatI f) cs 0 (j + 1) < f.melt) ∧ Below w3.heap.size w3 wr) (fun _ s _ _ => 2 * secsN cs - (intOf s).toNat)
        case atStart => exact ⟨0, 0, Nat.zero_le _, rfl, rfl, rfl, by omega, by omega, fun j hj => absurd hj (by omega), hB⟩
        case round =>
          obtain ⟨k, y, hk, rfl, rfl, hy, hy0, hy1, hall, hB2⟩ := hrel
          by_cases hlt : k < 2 * secsN cs
          · obtain ⟨p, hp, hpl, htm, hN0⟩ : ∃ p, Hid (k % secsN cs = p) ∧ p < secsN cs ∧ Int.tmod (k : Int) (secsN cs : Int) = (p : Int) ∧ ¬ secsN cs = 0 :=
              ⟨_, rfl, Nat.mod_lt _ hposN, by rw [Int.tmod_eq_emod_of_nonneg (by omega)]; rfl, by omega⟩
            obtain ⟨z, hz, hA1, hA2, hcz⟩ := intAt (k := p) hB2 HA.out HC.out hpl
            subst hA1
            have hGr := (hB2.block _ hs3).trans HGB.out
            have q0 := cellOf hGr 0
            have q1 := cellOf hGr 1
            clear hGr
            have hz2 : ampAt cs k = z := by unfold ampAt; rw [hp.out]; exact hz.out
            have hzr := ampAt_range HOK.out k
            rw [hz2] at hzr
            obtain ⟨hz3, hz4⟩ := hzr
            obtain ⟨p1, p2⟩ := mul_range hz3 hz4 hz3 hz4
            have hst : stU (heatI f) cs 0 (k + 1) = max 0 (y + z * z - f.rating * f.rating) := by rw [stU_succ, hy.out, hz2]; rfl
            have HST := hide hst
            clear hz2 hst
            by_cases hneg : 0 ≤ y + z * z - f.rating * f.rating
            · by_cases hmelt : f.melt ≤ y + z * z - f.rating * f.rating
              · go_wp2
                go_ret
                exact ⟨ret_bool (holds_melts HLE.out hlt (by rw [HST.out]; omega)).symm, hW3.trans (hB2.mono hW3.size)⟩
              · go_wp2
                go_roundw
                case rel => exact ⟨k + 1, y + z * z - f.rating * f.rating, by omega, by go_num, congrArg (Value.int IntKind.i64) (by first | rfl | omega | (split <;> omega)), (by show _ = _; rw [HST.out]; omega), hneg, by omega, (fun j hj => by
                    rcases Nat.lt_or_ge j k with h | h
                    · exact hall.out j h
                    · rw [show j = k from by omega, HST.out]; omega), hB2⟩
                case measure => simp [intOf]; omega
            · go_wp2
              go_roundw
              case rel => exact ⟨k + 1, 0, by omega, by go_num, congrArg (Value.int IntKind.i64) (by first | rfl | omega | (split <;> omega)), (by show _ = _; rw [HST.out]; omega), by omega, by omega, (fun j hj => by
                    rcases Nat.lt_or_ge j k with h | h
                    · exact hall.out j h
                    · rw [show j = k from by omega, HST.out]; omega), hB2⟩
              case measure => simp [intOf]; omega
          · go_wp2
            go_ret
            exact ⟨ret_bool (holds_cool HLE.out hposN (fun s hs => hall.out s (by omega))).symm, hW3.trans (hB2.mono hW3.size)⟩
end Go.Proofs.Ytejjjijaojkohaa

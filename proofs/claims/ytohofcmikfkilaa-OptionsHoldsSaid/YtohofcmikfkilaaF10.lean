/- Valid formulas and models: walks. -/
import Derived.Test.YtohofcmikfkilaaRows
import Derived.Test.YtohofcmikfkilaaF9
namespace Go.Proofs.Ytohofcmikfkilaa
open Go.RowKit
set_option linter.unusedVariables false
set_option linter.unusedSimpArgs false
theorem wrap_zero {w : Nat} (h : (w : Int) ≤ 9223372036854775808) : (wrap64 (w : Int) == 0) = decide (w = 0) := by
  rcases (by omega : (w : Int) ≤ 9223372036854775807 ∨ (w : Int) = 9223372036854775808) with h1 | h1
  · rw [IntWalk.wrap64_in _ (by omega)]
    rw [Bool.eq_iff_iff]; simp
  · rw [h1]
    have : decide (w = 0) = false := by simp; omega
    rw [this]
    unfold wrap64
    rfl
set_option maxRecDepth 100000 in
set_option maxHeartbeats 1000000 in
theorem valid_any (f : List Int) (N : Nat) (v : Value) (B : Nat) (w : World) (hm : f.length ≤ maxLen) (h : Ints w B v f) :
    Calls Try.prog 104 #[v, .int .i64 N] w fun e w' => e = .returned (.bool (validF N f)) ∧ w = w' := by
  unfold maxLen at hm
  obtain ⟨A, b, off, cap, rfl, hnc, hA, hc⟩ := h
  have HC := hide hc
  have HA := hide hA
  have hN0 : (0 : Int) ≤ (N : Int) := by omega
  clear hc hA
  go_enter Try.func104, Try.ntmps104
  go_wp2
  go_loop [5, 10] (fun x i => ∃ k c : Nat, k ≤ f.length ∧ c ≤ k + 1 ∧ i = .int .i64 k ∧ x = .int .i64 (wrap64 (c : Int)) ∧ Hid (vld N 1 f = vld N c (f.drop k))) (fun _ i => f.length - (intOf i).toNat)
  case atStart => exact ⟨0, 1, Nat.zero_le _, by omega, rfl, by rw [IntWalk.wrap64_in _ (by omega)]; rfl, rfl⟩
  case round =>
    obtain ⟨k, c, hk, hck, rfl, rfl, hv⟩ := hrel
    by_cases hlt : k < f.length
    · obtain ⟨rfl, hbb⟩ : A = some ⟨b, off, none⟩ ∧ b < B := by
        rcases HA.out with h | h
        · exact h
        · omega
      obtain ⟨o, ho⟩ : ∃ o, f.getD k 0 = o := ⟨_, rfl⟩
      have c0 : w.cell? ⟨b, off + k, none⟩ = some (.int .i64 o) := by
        have h1 := HC.out k 0 hlt (by omega)
        rw [Nat.mul_one, Nat.add_zero, ho] at h1
        exact h1
      have hv2 := hv.out
      rw [drop_getD hlt, ho] at hv2
      have HV2 := hide hv2
      rw [IntWalk.wrap64_in _ (by omega)]
      have hc0 : (0 : Int) ≤ (c : Int) := by omega
      have hbad : vld N c (o :: f.drop (k + 1)) = false → validF N f = false := fun h => by
        unfold validF; rw [HV2.out, h]; rfl
      have HBAD := hide hbad
      clear hv2 ho hbad
      match c, hck, HV2, HBAD, hc0 with
      | 0, _, HV2, HBAD, hc0 =>
        have h0 : (((0 : Nat) : Int) == 0) = true := by simp
        go_wp2
        go_ret
        exact ⟨ret_bool (HBAD.out rfl).symm, rfl⟩
      | c + 1, hck, HV2, HBAD, hc0 =>
        have h0 : (((c + 1 : Nat) : Int) == 0) = false := by simp; omega
        by_cases h6 : o < -6
        · have hb : vld N (c + 1) (o :: f.drop (k + 1)) = false := by
            have : decide (-6 ≤ o) = false := by simp; omega
            simp only [vld, this, Bool.false_and]
          have HB := hide (HBAD.out hb)
          clear hb
          go_wp2
          go_ret
          exact ⟨ret_bool HB.out.symm, rfl⟩
        · by_cases hoN : (N : Int) ≤ o
          · have hb : vld N (c + 1) (o :: f.drop (k + 1)) = false := by
              have : decide (o < N) = false := by simp; omega
              simp only [vld, this, Bool.and_false, Bool.false_and]
            have HB := hide (HBAD.out hb)
            clear hb
            go_wp2
            go_ret
            exact ⟨ret_bool HB.out.symm, rfl⟩
          · have hg : vld N (c + 1) (o :: f.drop (k + 1)) = vld N (c + arO o) (f.drop (k + 1)) := by
              have h1 : decide (-6 ≤ o) = true := by simp; omega
              have h2 : decide (o < N) = true := by simp; omega
              simp only [vld, h1, h2, Bool.true_and]
            have ha2 : arO o ≤ 2 := by unfold arO; split; omega; split <;> omega
            have HG := hide hg
            clear hg
            go_wp2_with (go_at_call 95; refine (operands_any _ _).mono ?_; rintro e w1 ⟨rfl, rfl⟩)
            go_round
            case rel => exact ⟨k + 1, c + arO o, by omega, by omega, by go_num, by congr 2; first | omega | (congr 1; omega), by rw [hv.out, ← HG.out]; exact (hv.out.symm.trans HV2.out)⟩
            case measure => simp [intOf]; omega
    · obtain rfl : k = f.length := by omega
      have hz := wrap_zero (w := c) (by omega)
      have hf : validF N f = (decide (c = 0) && decide (f.length ≤ 100)) := by
        unfold validF
        rw [hv.out, List.drop_length]
        congr 1
        cases c <;> simp [vld]
      obtain ⟨z, hzz⟩ : ∃ z, wrap64 (c : Int) = z := ⟨_, rfl⟩
      rw [hzz] at hz ⊢
      have HF := hide hf
      clear hf hzz
      by_cases hc0 : c = 0
      · have hz1 : (z == 0) = true := by rw [hz]; simp [hc0]
        have HC0 := hide hc0
        clear hz hc0
        by_cases h100 : f.length ≤ 100
        · have h101 : (f.length : Int) ≤ 100 := by omega
          go_wp2
          go_ret
          exact ⟨ret_bool (by rw [HF.out, HC0.out]; simp [h100]), rfl⟩
        · have h101 : ¬ (f.length : Int) ≤ 100 := by omega
          go_wp2
          go_ret
          exact ⟨ret_bool (by rw [HF.out]; simp [h100]), rfl⟩
      · have hz1 : (z == 0) = false := by rw [hz]; simp [hc0]
        have HC0 := hide hc0
        clear hz hc0
        go_wp2
        go_ret
        exact ⟨ret_bool (by rw [HF.out]; simp [HC0.out]), rfl⟩
end Go.Proofs.Ytohofcmikfkilaa

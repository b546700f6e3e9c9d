/- Names and valid formulas, as the elder program has them: walks. -/
import Derived.Test.YtohofcmikfkilaaRows
import Derived.Test.YtohofcmikfkilaaF12
import Derived.WalkLawsBesides
import Derived.WalkSpells
import Derived.Deep.QuietTactic
namespace Go.Proofs.Ytohofcmikfkilaa
open Go.RowKit
set_option linter.unusedVariables false
set_option linter.unusedSimpArgs false
set_option maxRecDepth 100000 in
set_option maxHeartbeats 2000000 in
theorem rName_any (s : ByteArray) (w : World) (hs : s.size ≤ maxLen) :
    Calls Try.prog 70 #[.string s] w fun e w' => e = .returned (.bool (namedB s.data.toList)) ∧ w = w' := by
  have hl : s.data.toList.length = s.size := by simp
  by_cases h1 : s.size < 1
  · have hf : namedB s.data.toList = false := by
      unfold namedB; rw [hl]; simp; omega
    have HF := hide hf
    have h2 : (s.size : Int) < 1 := by omega
    clear hf hl h1
    go_enter Try.func70, Try.ntmps70
    go_wp2
    go_ret
    exact ⟨ret_bool HF.out.symm, rfl⟩
  by_cases h2 : 8 < s.size
  · have hf : namedB s.data.toList = false := by
      unfold namedB; rw [hl]; simp; omega
    have HF := hide hf
    have h3 : (8 : Int) < (s.size : Int) := by omega
    have h4 : ¬ (s.size : Int) < 1 := by omega
    clear hf hl h1 h2
    go_enter Try.func70, Try.ntmps70
    go_wp2
    go_ret
    exact ⟨ret_bool HF.out.symm, rfl⟩
  have h3 : ¬ (s.size : Int) < 1 := by omega
  have h4 : ¬ (8 : Int) < (s.size : Int) := by omega
  by_cases hy : s.data.toList = [121, 101, 115]
  · have hf : namedB s.data.toList = false := by unfold namedB; rw [hy]; rfl
    have HF := hide hf
    have hse : s = ⟨#[121, 101, 115]⟩ := by
      obtain ⟨d⟩ := s
      congr 1
      exact Array.toList_inj.1 hy
    subst hse
    clear hf hy hl
    go_enter Try.func70, Try.ntmps70
    go_wp2
    go_ret
    exact ⟨ret_bool HF.out.symm, rfl⟩
  by_cases hn : s.data.toList = [110, 111]
  · have hf : namedB s.data.toList = false := by unfold namedB; rw [hn]; rfl
    have HF := hide hf
    have hse : s = ⟨#[110, 111]⟩ := by
      obtain ⟨d⟩ := s
      congr 1
      exact Array.toList_inj.1 hn
    subst hse
    clear hf hy hn hl
    go_enter Try.func70, Try.ntmps70
    go_wp2
    go_ret
    exact ⟨ret_bool HF.out.symm, rfl⟩
  have hf : namedB s.data.toList = (smN (s.data.toList.getD 0 0) && decide (wordN s.data.toList = s.size)) := by
    unfold namedB
    rw [hl]
    have e1 : decide (1 ≤ s.size) = true := by simp; omega
    have e2 : decide (s.size ≤ 8) = true := by simp; omega
    have e3 : decide (s.data.toList ≠ [121, 101, 115]) = true := by simpa using hy
    have e4 : decide (s.data.toList ≠ [110, 111]) = true := by simpa using hn
    rw [e1, e2, e3, e4]
    simp only [Bool.and_true, Bool.true_and]
  have HF := hide hf
  obtain ⟨k1, _⟩ := str_ne hy
  obtain ⟨k2, _⟩ := str_ne hn
  have hs1 : 1 ≤ s.size := by omega
  have hs2 : s.size ≤ 8 := by omega
  have HL := hide hl
  clear hf hy hn hl h1 h2
  go_enter Try.func70, Try.ntmps70
  go_wp2
  go_loop [3] (fun i => ∃ k : Nat, k ≤ s.size ∧ i = .int .i64 k ∧ Hid (∀ j, j < k → alN (s.data.toList.getD j 0) = true) ∧ Hid (0 < k → smN (s.data.toList.getD 0 0) = true)) (fun i => s.size - (intOf i).toNat)
  case atStart => exact ⟨0, Nat.zero_le _, rfl, fun j hj => by omega, fun h => by omega⟩
  case round =>
    obtain ⟨k, hk, rfl, hall, hsm⟩ := hrel
    by_cases hlt : k < s.size
    · have hgd := getD_str s k hlt
      have hyes : alN s[k] = true → Hid (∀ j, j < k + 1 → alN (s.data.toList.getD j 0) = true) := fun h j hj => by
        rcases Nat.lt_or_ge j k with h1 | h1
        · exact hall.out j h1
        · rw [show j = k from by omega, hgd]; exact h
      have hno : alN s[k] = false → namedB s.data.toList = false := fun h => by
        have h5 := wordN_at s.data.toList k (by simpa using hlt) hall.out (by rw [hgd]; exact h)
        rw [HF.out, h5]
        simp; omega
      have HY := hide hyes
      have HN := hide hno
      have HG := hide hgd
      clear hgd hyes hno
      have hkz : k = 0 ∨ 0 < k := by omega
      by_cases h97 : (s[k].toNat : Int) < 97
      · have d1 : decide (97 ≤ (s[k].toNat : Int)) = false := by simp; omega
        by_cases h48 : (s[k].toNat : Int) < 48
        · have d3 : decide (48 ≤ (s[k].toNat : Int)) = false := by simp; omega
          have HC := hide (HN.out (alN_not (by omega)))
          rcases hkz with hz | hz
          · have h0 : ((k : Int) == 0) = true := by simp [hz]
            clear hz
            go_wp2
            go_ret
            exact ⟨ret_bool HC.out.symm, rfl⟩
          · have h0 : ((k : Int) == 0) = false := by simp; omega
            clear hz
            go_wp2
            go_ret
            exact ⟨ret_bool HC.out.symm, rfl⟩
        · have d3 : decide (48 ≤ (s[k].toNat : Int)) = true := by simp; omega
          by_cases h57 : (57 : Int) < (s[k].toNat : Int)
          · have d4 : decide ((s[k].toNat : Int) ≤ 57) = false := by simp; omega
            have HC := hide (HN.out (alN_not (by omega)))
            rcases hkz with hz | hz
            · have h0 : ((k : Int) == 0) = true := by simp [hz]
              clear hz
              go_wp2
              go_ret
              exact ⟨ret_bool HC.out.symm, rfl⟩
            · have h0 : ((k : Int) == 0) = false := by simp; omega
              clear hz
              go_wp2
              go_ret
              exact ⟨ret_bool HC.out.symm, rfl⟩
          · have d4 : decide ((s[k].toNat : Int) ≤ 57) = true := by simp; omega
            rcases hkz with hz | hz
            · have h0 : ((k : Int) == 0) = true := by simp [hz]
              have hc : namedB s.data.toList = false := by
                have h5 := HG.out
                rw [HF.out]
                subst hz
                rw [h5, smN_not (.inl h97)]
                rfl
              have HC := hide hc
              clear hz hc
              go_wp2
              go_ret
              exact ⟨ret_bool HC.out.symm, rfl⟩
            · have h0 : ((k : Int) == 0) = false := by simp; omega
              have HC := hide (HY.out (alN_of (.inr ⟨by omega, by omega⟩)))
              go_wp2
              go_round
              case rel => exact ⟨k + 1, by omega, by go_num, HC.out, fun _ => hsm.out hz⟩
              case measure => simp [intOf]; omega
      · have d1 : decide (97 ≤ (s[k].toNat : Int)) = true := by simp; omega
        have d3 : decide (48 ≤ (s[k].toNat : Int)) = true := by simp; omega
        have d4 : decide ((s[k].toNat : Int) ≤ 57) = false := by simp; omega
        by_cases h122 : (122 : Int) < (s[k].toNat : Int)
        · have d2 : decide ((s[k].toNat : Int) ≤ 122) = false := by simp; omega
          have HC := hide (HN.out (alN_not (by omega)))
          rcases hkz with hz | hz
          · have h0 : ((k : Int) == 0) = true := by simp [hz]
            clear hz
            go_wp2
            go_ret
            exact ⟨ret_bool HC.out.symm, rfl⟩
          · have h0 : ((k : Int) == 0) = false := by simp; omega
            clear hz
            go_wp2
            go_ret
            exact ⟨ret_bool HC.out.symm, rfl⟩
        · have d2 : decide ((s[k].toNat : Int) ≤ 122) = true := by simp; omega
          have HC := hide (HY.out (alN_of (.inl ⟨by omega, by omega⟩)))
          have hc : Hid (0 < k + 1 → smN (s.data.toList.getD 0 0) = true) := fun _ => by
            rcases hkz with hz | hz
            · subst hz
              rw [HG.out]; exact smN_of (by omega) (by omega)
            · exact hsm.out hz
          clear hkz
          go_wp2
          go_round
          case rel => exact ⟨k + 1, by omega, by go_num, HC.out, hc⟩
          case measure => simp [intOf]; omega
    · have : k = s.size := by omega
      subst this
      have hc : namedB s.data.toList = true := by
        rw [HF.out, hsm.out (by omega), wordN_all _ (by simpa using hall.out), HL.out]
        simp
      have HC := hide hc
      clear hc
      go_wp2
      go_ret
      exact ⟨ret_bool HC.out.symm, rfl⟩
end Go.Proofs.Ytohofcmikfkilaa

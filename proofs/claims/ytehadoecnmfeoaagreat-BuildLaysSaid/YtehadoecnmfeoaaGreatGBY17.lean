/- Part 17 of this claim's texts: walks and plain laws. -/
import Derived.Test.YtehadoecnmfeoaaGreatRows
import Derived.Test.YtehadoecnmfeoaaGreatGBY8
import Derived.WalkLawsBesides
import Derived.WalkSpells
import Derived.Deep.QuietTactic
/- Names and valid formulas, as the elder program has them: walks. -/
namespace Go.Proofs.YtehadoecnmfeoaaGreat
open Go.RowKit
set_option linter.unusedVariables false
set_option linter.unusedSimpArgs false
set_option maxRecDepth 100000 in
set_option maxHeartbeats 2000000 in
theorem rName_any (s : ByteArray) (w : World) (hs : s.size ≤ maxLen) :
    Calls Tryz.prog 201 #[.string s] w fun e w' => e = .returned (.bool (namedB s.data.toList)) ∧ w = w' := by
  have hl : s.data.toList.length = s.size := by simp
  by_cases h1 : s.size < 1
  · have hf : namedB s.data.toList = false := by
      unfold namedB; rw [hl]; simp; omega
    have HF := hide hf
    have h2 : (s.size : Int) < 1 := by omega
    clear hf hl h1
    go_enter Tryz.func201, Tryz.ntmps201
    go_wp2
    go_ret
    exact ⟨ret_bool HF.out.symm, rfl⟩
  by_cases h2 : 8 < s.size
  · have hf : namedB s.data.toList = false := by
      unfold namedB; rw [hl]; simp; omega
    have HF := hide hf
    have h3 : (8 : Int) < (s.size : Int) := by omega
    have h4 : ¬ (s.size : Int) < 1 := by omega
    clear hf hl h1 h2
    go_enter Tryz.func201, Tryz.ntmps201
    go_wp2
    go_ret
    exact ⟨ret_bool HF.out.symm, rfl⟩
  have h3 : ¬ (s.size : Int) < 1 := by omega
  have h4 : ¬ (8 : Int) < (s.size : Int) := by omega
  by_cases hy : s.data.toList = [121, 101, 115]
  · have hf : namedB s.data.toList = false := by unfold namedB; rw [hy]; rfl
    have HF := hide hf
    have hse : s = ⟨#[121, 101, 115]⟩ := by
      obtain ⟨d⟩ := s
      congr 1
      exact Array.toList_inj.1 hy
    subst hse
    clear hf hy hl
    go_enter Tryz.func201, Tryz.ntmps201
    go_wp2
    go_ret
    exact ⟨ret_bool HF.out.symm, rfl⟩
  by_cases hn : s.data.toList = [110, 111]
  · have hf : namedB s.data.toList = false := by unfold namedB; rw [hn]; rfl
    have HF := hide hf
    have hse : s = ⟨#[110, 111]⟩ := by
      obtain ⟨d⟩ := s
      congr 1
      exact Array.toList_inj.1 hn
    subst hse
    clear hf hy hn hl
    go_enter Tryz.func201, Tryz.ntmps201
    go_wp2
    go_ret
    exact ⟨ret_bool HF.out.symm, rfl⟩
  have hf : namedB s.data.toList = (smN (s.data.toList.getD 0 0) && decide (wordN s.data.toList = s.size)) := by
    unfold namedB
    rw [hl]
    have e1 : decide (1 ≤ s.size) = true := by simp; omega
    have e2 : decide (s.size ≤ 8) = true := by simp; omega
    have e3 : decide (s.data.toList ≠ [121, 101, 115]) = true := by simpa using hy
    have e4 : decide (s.data.toList ≠ [110, 111]) = true := by simpa using hn
    rw [e1, e2, e3, e4]
    simp only [Bool.and_true, Bool.true_and]
  have HF := hide hf
  obtain ⟨k1, _⟩ := str_ne hy
  obtain ⟨k2, _⟩ := str_ne hn
  have hs1 : 1 ≤ s.size := by omega
  have hs2 : s.size ≤ 8 := by omega
  have HL := hide hl
  clear hf hy hn hl h1 h2
  go_enter Tryz.func201, Tryz.ntmps201
  go_wp2
  go_loop [3] (fun i => ∃ k : Nat, k ≤ s.size ∧ i = .int .i64 k ∧ Hid (∀ j, j < k → alN (s.data.toList.getD j 0) = true) ∧ Hid (0 < k → smN (s.data.toList.getD 0 0) = true)) (fun i => s.size - (intOf i).toNat)
  case atStart => exact ⟨0, Nat.zero_le _, rfl, fun j hj => by omega, fun h => by omega⟩
  case round =>
    obtain ⟨k, hk, rfl, hall, hsm⟩ := hrel
    by_cases hlt : k < s.size
    · have hgd := getD_str s k hlt
      have hyes : alN s[k] = true → Hid (∀ j, j < k + 1 → alN (s.data.toList.getD j 0) = true) := fun h j hj => by
        rcases Nat.lt_or_ge j k with h1 | h1
        · exact hall.out j h1
        · rw [show j = k from by omega, hgd]; exact h
      have hno : alN s[k] = false → namedB s.data.toList = false := fun h => by
        have h5 := wordN_at s.data.toList k (by simpa using hlt) hall.out (by rw [hgd]; exact h)
        rw [HF.out, h5]
        simp; omega
      have HY := hide hyes
      have HN := hide hno
      have HG := hide hgd
      clear hgd hyes hno
      have hkz : k = 0 ∨ 0 < k := by omega
      by_cases h97 : (s[k].toNat : Int) < 97
      · have d1 : decide (97 ≤ (s[k].toNat : Int)) = false := by simp; omega
        by_cases h48 : (s[k].toNat : Int) < 48
        · have d3 : decide (48 ≤ (s[k].toNat : Int)) = false := by simp; omega
          have HC := hide (HN.out (alN_not (by omega)))
          rcases hkz with hz | hz
          · have h0 : ((k : Int) == 0) = true := by simp [hz]
            clear hz
            go_wp2
            go_ret
            exact ⟨ret_bool HC.out.symm, rfl⟩
          · have h0 : ((k : Int) == 0) = false := by simp; omega
            clear hz
            go_wp2
            go_ret
            exact ⟨ret_bool HC.out.symm, rfl⟩
        · have d3 : decide (48 ≤ (s[k].toNat : Int)) = true := by simp; omega
          by_cases h57 : (57 : Int) < (s[k].toNat : Int)
          · have d4 : decide ((s[k].toNat : Int) ≤ 57) = false := by simp; omega
            have HC := hide (HN.out (alN_not (by omega)))
            rcases hkz with hz | hz
            · have h0 : ((k : Int) == 0) = true := by simp [hz]
              clear hz
              go_wp2
              go_ret
              exact ⟨ret_bool HC.out.symm, rfl⟩
            · have h0 : ((k : Int) == 0) = false := by simp; omega
              clear hz
              go_wp2
              go_ret
              exact ⟨ret_bool HC.out.symm, rfl⟩
          · have d4 : decide ((s[k].toNat : Int) ≤ 57) = true := by simp; omega
            rcases hkz with hz | hz
            · have h0 : ((k : Int) == 0) = true := by simp [hz]
              have hc : namedB s.data.toList = false := by
                have h5 := HG.out
                rw [HF.out]
                subst hz
                rw [h5, smN_not (.inl h97)]
                rfl
              have HC := hide hc
              clear hz hc
              go_wp2
              go_ret
              exact ⟨ret_bool HC.out.symm, rfl⟩
            · have h0 : ((k : Int) == 0) = false := by simp; omega
              have HC := hide (HY.out (alN_of (.inr ⟨by omega, by omega⟩)))
              go_wp2
              go_round
              case rel => exact ⟨k + 1, by omega, by go_num, HC.out, fun _ => hsm.out hz⟩
              case measure => simp [intOf]; omega
      · have d1 : decide (97 ≤ (s[k].toNat : Int)) = true := by simp; omega
        have d3 : decide (48 ≤ (s[k].toNat : Int)) = true := by simp; omega
        have d4 : decide ((s[k].toNat : Int) ≤ 57) = false := by simp; omega
        by_cases h122 : (122 : Int) < (s[k].toNat : Int)
        · have d2 : decide ((s[k].toNat : Int) ≤ 122) = false := by simp; omega
          have HC := hide (HN.out (alN_not (by omega)))
          rcases hkz with hz | hz
          · have h0 : ((k : Int) == 0) = true := by simp [hz]
            clear hz
            go_wp2
            go_ret
            exact ⟨ret_bool HC.out.symm, rfl⟩
          · have h0 : ((k : Int) == 0) = false := by simp; omega
            clear hz
            go_wp2
            go_ret
            exact ⟨ret_bool HC.out.symm, rfl⟩
        · have d2 : decide ((s[k].toNat : Int) ≤ 122) = true := by simp; omega
          have HC := hide (HY.out (alN_of (.inl ⟨by omega, by omega⟩)))
          have hc : Hid (0 < k + 1 → smN (s.data.toList.getD 0 0) = true) := fun _ => by
            rcases hkz with hz | hz
            · subst hz
              rw [HG.out]; exact smN_of (by omega) (by omega)
            · exact hsm.out hz
          clear hkz
          go_wp2
          go_round
          case rel => exact ⟨k + 1, by omega, by go_num, HC.out, hc⟩
          case measure => simp [intOf]; omega
    · have : k = s.size := by omega
      subst this
      have hc : namedB s.data.toList = true := by
        rw [HF.out, hsm.out (by omega), wordN_all _ (by simpa using hall.out), HL.out]
        simp
      have HC := hide hc
      clear hc
      go_wp2
      go_ret
      exact ⟨ret_bool HC.out.symm, rfl⟩
end Go.Proofs.YtehadoecnmfeoaaGreat
/- The end of a term, as the elder program has it: walk. -/
namespace Go.Proofs.YtehadoecnmfeoaaGreat
open Go.RowKit
set_option linter.unusedVariables false
set_option linter.unusedSimpArgs false
/-- How many numbers of l belong to its first c terms. -/
def endN (N : Nat) : Nat → List Int → Option Nat
  | 0, _ => some 0
  | _ + 1, [] => none
  | c + 1, o :: r => if -6 ≤ o ∧ o < N then (endN N (c + arO o) r).map (· + 1) else none
def endR (p : Nat) : Option Nat → Int
  | none => -1
  | some q => (p + q : Nat)
theorem endN_zero (N : Nat) (l : List Int) : endN N 0 l = some 0 := by cases l <;> rfl
theorem endR_succ (p : Nat) (o : Option Nat) : endR p (o.map (· + 1)) = endR (p + 1) o := by
  cases o with
  | none => rfl
  | some q => simp only [Option.map_some, endR]; omega
theorem endN_vld (N : Nat) : ∀ (l : List Int) (c : Nat), (endN N c l == some l.length) = vld N c l
  | [], 0 => rfl
  | [], c + 1 => rfl
  | o :: r, 0 => by simp [endN, vld]
  | o :: r, c + 1 => by
    have ih := endN_vld N r (c + arO o)
    simp only [endN, vld]
    by_cases h : -6 ≤ o ∧ o < N
    · rw [if_pos h]
      have h1 : decide (-6 ≤ o) = true := by simp [h.1]
      have h2 : decide (o < N) = true := by simp [h.2]
      rw [h1, h2, ← ih, Bool.true_and, Bool.true_and]
      cases endN N (c + arO o) r with
      | none => rfl
      | some q => rw [Bool.eq_iff_iff]; simp
    · rw [if_neg h]
      have h1 : (decide (-6 ≤ o) && decide (o < N)) = false := by
        rw [Bool.eq_false_iff]
        intro h2
        apply h
        simpa using h2
      rw [h1, Bool.false_and]
      rfl
theorem endN_end (N : Nat) (l : List Int) : (endR 0 (endN N 1 l) == (l.length : Int)) = vld N 1 l := by
  rw [← endN_vld]
  cases endN N 1 l with
  | none => rw [Bool.eq_iff_iff]; simp [endR]
  | some q => rw [Bool.eq_iff_iff]; simp [endR]; omega
theorem endN_bad {N c : Nat} {o : Int} {r : List Int} (h : ¬ (-6 ≤ o ∧ o < N)) : endN N (c + 1) (o :: r) = none := by
  simp only [endN]; rw [if_neg h]
theorem endN_go {N c : Nat} {o : Int} {r : List Int} (h : -6 ≤ o ∧ o < N) (k : Nat) : endR k (endN N (c + 1) (o :: r)) = endR (k + 1) (endN N (c + arO o) r) := by
  simp only [endN]; rw [if_pos h, endR_succ]
set_option maxRecDepth 100000 in
set_option maxHeartbeats 2000000 in
theorem end_any (f : List Int) (p N : Nat) (v : Value) (B : Nat) (w : World) (hm : f.length ≤ 1000) (hp : p ≤ f.length) (h : Ints w B v f) :
    Calls Tryz.prog 158 #[v, .int .i64 p, .int .i64 N] w fun e w' => e = .returned (.int .i64 (endR p (endN N 1 (f.drop p)))) ∧ w = w' := by
  obtain ⟨A, b, off, cap, rfl, hnc, hA, hc⟩ := h
  have HC := hide hc
  have HA := hide hA
  clear hc hA
  go_enter Tryz.func158, Tryz.ntmps158
  go_wp2
  go_loop [1, 7] (fun i x => ∃ k c : Nat, p ≤ k ∧ k ≤ f.length ∧ c ≤ k + 1 ∧ i = .int .i64 k ∧ x = .int .i64 c ∧ Hid (endR p (endN N 1 (f.drop p)) = endR k (endN N c (f.drop k)))) (fun i _ => f.length - (intOf i).toNat)
  case atStart => exact ⟨p, 1, Nat.le_refl _, hp, by omega, rfl, rfl, rfl⟩
  case round =>
    obtain ⟨k, c, hpk, hk, hck, rfl, rfl, hv⟩ := hrel
    by_cases hlt : k < f.length
    · have j1 : (k : Int) < (f.length : Int) := by omega
      match c, hck, hv with
      | 0, hck, hv =>
        have HV : Hid (endR p (endN N 1 (f.drop p)) = ((k + 0 : Nat) : Int)) := by have h := hv.out; rw [endN_zero] at h; exact h
        clear hv
        go_wp2
        go_ret
        exact ⟨ret_int HV.out.symm, rfl⟩
      | c + 1, hck, hv =>
        obtain ⟨rfl, hbb⟩ : A = some ⟨b, off, none⟩ ∧ b < B := by
          rcases HA.out with h | h
          · exact h
          · omega
        obtain ⟨o, ho⟩ : ∃ o, f.getD k 0 = o := ⟨_, rfl⟩
        have c0 : w.cell? ⟨b, off + k, none⟩ = some (.int .i64 o) := by
          have h1 := HC.out k 0 hlt (by omega)
          rw [Nat.mul_one, Nat.add_zero, ho] at h1
          exact h1
        have j0 : (0 : Int) ≤ (k : Int) := by omega
        have j2 : (0 : Int) < ((c + 1 : Nat) : Int) := by omega
        have hv2 := hv.out
        rw [drop_getD hlt, ho] at hv2
        have HV := hide hv2
        clear hv2 hv ho
        by_cases hN : (N : Int) ≤ o
        · have HE := hide (HV.out.trans (by rw [endN_bad (by omega)]; rfl : _ = (-1 : Int)))
          have d1 : decide ((N : Int) ≤ o) = true := by simp; omega
          go_wp2
          go_ret
          exact ⟨ret_int HE.out.symm, rfl⟩
        · have d1 : decide ((N : Int) ≤ o) = false := by simp; omega
          by_cases h6 : o < -6
          · have HE := hide (HV.out.trans (by rw [endN_bad (by omega)]; rfl : _ = (-1 : Int)))
            have d2 : decide (o < -6) = true := by simp; omega
            go_wp2
            go_ret
            exact ⟨ret_int HE.out.symm, rfl⟩
          · have d2 : decide (o < -6) = false := by simp; omega
            have hg := HV.out.trans (endN_go (by omega) k)
            have HG := hide hg
            clear hg
            rcases (by omega : 0 ≤ o ∨ o = -1 ∨ o = -2 ∨ o = -3 ∨ (o = -4 ∨ o = -5 ∨ o = -6)) with h | h | h | h | h
            · have ha : arO o = 0 := by unfold arO; (repeat' split) <;> omega
              have HA0 := hide ha
              have d3 : decide (0 ≤ o) = true := by simp; omega
              clear ha
              go_wp2
              go_round
              case rel => exact ⟨k + 1, c, by omega, by omega, by omega, by go_num, by go_num, by rw [HG.out, HA0.out]; rfl⟩
              case measure => simp [intOf]; omega
            · have ha : arO o = 0 := by unfold arO; (repeat' split) <;> omega
              have HA0 := hide ha
              have d3 : decide (0 ≤ o) = false := by simp; omega
              have d4 : (o == -1) = true := by simp; omega
              clear ha
              go_wp2
              go_round
              case rel => exact ⟨k + 1, c, by omega, by omega, by omega, by go_num, by go_num, by rw [HG.out, HA0.out]; rfl⟩
              case measure => simp [intOf]; omega
            · have ha : arO o = 0 := by unfold arO; (repeat' split) <;> omega
              have HA0 := hide ha
              have d3 : decide (0 ≤ o) = false := by simp; omega
              have d4 : (o == -1) = false := by simp; omega
              have d5 : (o == -2) = true := by simp; omega
              clear ha
              go_wp2
              go_round
              case rel => exact ⟨k + 1, c, by omega, by omega, by omega, by go_num, by go_num, by rw [HG.out, HA0.out]; rfl⟩
              case measure => simp [intOf]; omega
            · have ha : arO o = 1 := by unfold arO; (repeat' split) <;> omega
              have HA0 := hide ha
              have d3 : decide (0 ≤ o) = false := by simp; omega
              have d4 : (o == -1) = false := by simp; omega
              have d5 : (o == -2) = false := by simp; omega
              have d6 : (!(o == -3)) = false := by simp; omega
              clear ha
              go_wp2
              go_round
              case rel => exact ⟨k + 1, c + 1, by omega, by omega, by omega, by go_num, by go_num, by rw [HG.out, HA0.out]; rfl⟩
              case measure => simp [intOf]; omega
            · have ha : arO o = 2 := by unfold arO; (repeat' split) <;> omega
              have HA0 := hide ha
              have d3 : decide (0 ≤ o) = false := by simp; omega
              have d4 : (o == -1) = false := by simp; omega
              have d5 : (o == -2) = false := by simp; omega
              have d6 : (!(o == -3)) = true := by simp; omega
              clear ha
              go_wp2
              go_round
              case rel => exact ⟨k + 1, c + 2, by omega, by omega, by omega, by go_num, by go_num, by rw [HG.out, HA0.out]; rfl⟩
              case measure => simp [intOf]; omega
    · obtain rfl : k = f.length := by omega
      have hv2 := hv.out
      rw [List.drop_length] at hv2
      have HV2 := hide hv2
      clear hv2 hv
      match c, hck, HV2 with
      | 0, hck, HV2 =>
        have HV := hide (HV2.out : endR p (endN N 1 (f.drop p)) = ((f.length + 0 : Nat) : Int))
        go_wp2
        go_ret
        exact ⟨ret_int HV.out.symm, rfl⟩
      | c + 1, hck, HV2 =>
        have HV := hide (HV2.out : endR p (endN N 1 (f.drop p)) = (-1 : Int))
        have j2 : (0 : Int) < ((c + 1 : Nat) : Int) := by omega
        go_wp2
        go_ret
        exact ⟨ret_int HV.out.symm, rfl⟩
set_option maxRecDepth 100000 in
set_option maxHeartbeats 1000000 in
theorem rValid_any (f : List Int) (N : Nat) (v : Value) (B : Nat) (w : World) (hm : f.length ≤ maxLen) (h : Ints w B v f) :
    Calls Tryz.prog 84 #[v, .int .i64 N] w fun e w' => e = .returned (.bool (validF N f)) ∧ w = w' := by
  have H := hide h
  obtain ⟨A, cap, rfl⟩ := Sl.form h
  clear h
  by_cases h100 : f.length ≤ 100
  · have d1 : decide ((f.length : Int) ≤ 100) = true := by simp; omega
    by_cases h0 : f.length = 0
    · have d2 : decide ((0 : Int) < (f.length : Int)) = false := decide_eq_false (by omega)
      have hf : validF N f = false := by
        obtain rfl := List.eq_nil_of_length_eq_zero h0
        rfl
      have HF := hide hf
      clear hf
      go_enter Tryz.func84, Tryz.ntmps84
      go_wp2_with fail
      go_ret
      exact ⟨ret_bool HF.out.symm, rfl⟩
    · have d2 : decide ((0 : Int) < (f.length : Int)) = true := decide_eq_true (by omega)
      have hf : validF N f = (endR 0 (endN N 1 f) == (f.length : Int)) := by
        rw [endN_end]
        unfold validF
        have : decide (f.length ≤ 100) = true := by simp [h100]
        rw [this, Bool.and_true]
      have he := end_any f 0 N (.slice A f.length cap) B w (by omega) (Nat.zero_le _) H.out
      rw [List.drop_zero] at he
      obtain ⟨z, hz⟩ : ∃ z, endR 0 (endN N 1 f) = z := ⟨_, rfl⟩
      rw [hz] at he hf
      have HF := hide hf
      have HE := hide he
      clear hf he hz
      go_enter Tryz.func84, Tryz.ntmps84
      go_wp2_with (go_at_call 158; refine HE.out.mono ?_; rintro e w1 ⟨rfl, rfl⟩)
      go_ret
      exact ⟨ret_bool (by rw [HF.out]), rfl⟩
  · have d1 : decide ((f.length : Int) ≤ 100) = false := by simp; omega
    have hf : validF N f = false := by
      unfold validF
      have : decide (f.length ≤ 100) = false := by simp; omega
      rw [this, Bool.and_false]
    have HF := hide hf
    clear hf
    go_enter Tryz.func84, Tryz.ntmps84
    go_wp2_with fail
    go_ret
    exact ⟨ret_bool HF.out.symm, rfl⟩
end Go.Proofs.YtehadoecnmfeoaaGreat

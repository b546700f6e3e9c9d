/- Part 19 of this claim's texts: walks and plain laws. -/
import Derived.Test.YtmabfnddedffoaaRows
import Derived.Test.YtmabfnddedffoaaGLP18
/- The end of a term, as the elder program has it: walk. -/
namespace Go.Proofs.Ytmabfnddedffoaa
open Go.RowKit
set_option linter.unusedVariables false
set_option linter.unusedSimpArgs false
/-- How many numbers of l belong to its first c terms. -/
def endN (N : Nat) : Nat → List Int → Option Nat
  | 0, _ => some 0
  | _ + 1, [] => none
  | c + 1, o :: r => if -6 ≤ o ∧ o < N then (endN N (c + arO o) r).map (· + 1) else none
def endR (p : Nat) : Option Nat → Int
  | none => -1
  | some q => (p + q : Nat)
theorem endN_zero (N : Nat) (l : List Int) : endN N 0 l = some 0 := by cases l <;> rfl
theorem endR_succ (p : Nat) (o : Option Nat) : endR p (o.map (· + 1)) = endR (p + 1) o := by
  cases o with
  | none => rfl
  | some q => simp only [Option.map_some, endR]; omega
theorem endN_vld (N : Nat) : ∀ (l : List Int) (c : Nat), (endN N c l == some l.length) = vld N c l
  | [], 0 => rfl
  | [], c + 1 => rfl
  | o :: r, 0 => by simp [endN, vld]
  | o :: r, c + 1 => by
    have ih := endN_vld N r (c + arO o)
    simp only [endN, vld]
    by_cases h : -6 ≤ o ∧ o < N
    · rw [if_pos h]
      have h1 : decide (-6 ≤ o) = true := by simp [h.1]
      have h2 : decide (o < N) = true := by simp [h.2]
      rw [h1, h2, ← ih, Bool.true_and, Bool.true_and]
      cases endN N (c + arO o) r with
      | none => rfl
      | some q => rw [Bool.eq_iff_iff]; simp
    · rw [if_neg h]
      have h1 : (decide (-6 ≤ o) && decide (o < N)) = false := by
        rw [Bool.eq_false_iff]
        intro h2
        apply h
        simpa using h2
      rw [h1, Bool.false_and]
      rfl
theorem endN_end (N : Nat) (l : List Int) : (endR 0 (endN N 1 l) == (l.length : Int)) = vld N 1 l := by
  rw [← endN_vld]
  cases endN N 1 l with
  | none => rw [Bool.eq_iff_iff]; simp [endR]
  | some q => rw [Bool.eq_iff_iff]; simp [endR]; omega
theorem endN_bad {N c : Nat} {o : Int} {r : List Int} (h : ¬ (-6 ≤ o ∧ o < N)) : endN N (c + 1) (o :: r) = none := by
  simp only [endN]; rw [if_neg h]
theorem endN_go {N c : Nat} {o : Int} {r : List Int} (h : -6 ≤ o ∧ o < N) (k : Nat) : endR k (endN N (c + 1) (o :: r)) = endR (k + 1) (endN N (c + arO o) r) := by
  simp only [endN]; rw [if_pos h, endR_succ]
set_option maxRecDepth 100000 in
set_option maxHeartbeats 2000000 in
theorem end_any (f : List Int) (p N : Nat) (v : Value) (B : Nat) (w : World) (hm : f.length ≤ 1000) (hp : p ≤ f.length) (h : Ints w B v f) :
    Calls Try.prog 160 #[v, .int .i64 p, .int .i64 N] w fun e w' => e = .returned (.int .i64 (endR p (endN N 1 (f.drop p)))) ∧ w = w' := by
  obtain ⟨A, b, off, cap, rfl, hnc, hA, hc⟩ := h
  have HC := hide hc
  have HA := hide hA
  clear hc hA
  go_enter Try.func160, Try.ntmps160
  go_wp2
  go_loop [1, 7] (fun i x => ∃ k c : Nat, p ≤ k ∧ k ≤ f.length ∧ c ≤ k + 1 ∧ i = .int .i64 k ∧ x = .int .i64 c ∧ Hid (endR p (endN N 1 (f.drop p)) = endR k (endN N c (f.drop k)))) (fun i _ => f.length - (intOf i).toNat)
  case atStart => exact ⟨p, 1, Nat.le_refl _, hp, by omega, rfl, rfl, rfl⟩
  case round =>
    obtain ⟨k, c, hpk, hk, hck, rfl, rfl, hv⟩ := hrel
    by_cases hlt : k < f.length
    · have j1 : (k : Int) < (f.length : Int) := by omega
      match c, hck, hv with
      | 0, hck, hv =>
        have HV : Hid (endR p (endN N 1 (f.drop p)) = ((k + 0 : Nat) : Int)) := by have h := hv.out; rw [endN_zero] at h; exact h
        clear hv
        go_wp2
        go_ret
        exact ⟨ret_int HV.out.symm, rfl⟩
      | c + 1, hck, hv =>
        obtain ⟨rfl, hbb⟩ : A = some ⟨b, off, none⟩ ∧ b < B := by
          rcases HA.out with h | h
          · exact h
          · omega
        obtain ⟨o, ho⟩ : ∃ o, f.getD k 0 = o := ⟨_, rfl⟩
        have c0 : w.cell? ⟨b, off + k, none⟩ = some (.int .i64 o) := by
          have h1 := HC.out k 0 hlt (by omega)
          rw [Nat.mul_one, Nat.add_zero, ho] at h1
          exact h1
        have j0 : (0 : Int) ≤ (k : Int) := by omega
        have j2 : (0 : Int) < ((c + 1 : Nat) : Int) := by omega
        have hv2 := hv.out
        rw [drop_getD hlt, ho] at hv2
        have HV := hide hv2
        clear hv2 hv ho
        by_cases hN : (N : Int) ≤ o
        · have HE := hide (HV.out.trans (by rw [endN_bad (by omega)]; rfl : _ = (-1 : Int)))
          have d1 : decide ((N : Int) ≤ o) = true := by simp; omega
          go_wp2
          go_ret
          exact ⟨ret_int HE.out.symm, rfl⟩
        · have d1 : decide ((N : Int) ≤ o) = false := by simp; omega
          by_cases h6 : o < -6
          · have HE := hide (HV.out.trans (by rw [endN_bad (by omega)]; rfl : _ = (-1 : Int)))
            have d2 : decide (o < -6) = true := by simp; omega
            go_wp2
            go_ret
            exact ⟨ret_int HE.out.symm, rfl⟩
          · have d2 : decide (o < -6) = false := by simp; omega
            have hg := HV.out.trans (endN_go (by omega) k)
            have HG := hide hg
            clear hg
            rcases (by omega : 0 ≤ o ∨ o = -1 ∨ o = -2 ∨ o = -3 ∨ (o = -4 ∨ o = -5 ∨ o = -6)) with h | h | h | h | h
            · have ha : arO o = 0 := by unfold arO; (repeat' split) <;> omega
              have HA0 := hide ha
              have d3 : decide (0 ≤ o) = true := by simp; omega
              clear ha
              go_wp2
              go_round
              case rel => exact ⟨k + 1, c, by omega, by omega, by omega, by go_num, by go_num, by rw [HG.out, HA0.out]; rfl⟩
              case measure => simp [intOf]; omega
            · have ha : arO o = 0 := by unfold arO; (repeat' split) <;> omega
              have HA0 := hide ha
              have d3 : decide (0 ≤ o) = false := by simp; omega
              have d4 : (o == -1) = true := by simp; omega
              clear ha
              go_wp2
              go_round
              case rel => exact ⟨k + 1, c, by omega, by omega, by omega, by go_num, by go_num, by rw [HG.out, HA0.out]; rfl⟩
              case measure => simp [intOf]; omega
            · have ha : arO o = 0 := by unfold arO; (repeat' split) <;> omega
              have HA0 := hide ha
              have d3 : decide (0 ≤ o) = false := by simp; omega
              have d4 : (o == -1) = false := by simp; omega
              have d5 : (o == -2) = true := by simp; omega
              clear ha
              go_wp2
              go_round
              case rel => exact ⟨k + 1, c, by omega, by omega, by omega, by go_num, by go_num, by rw [HG.out, HA0.out]; rfl⟩
              case measure => simp [intOf]; omega
            · have ha : arO o = 1 := by unfold arO; (repeat' split) <;> omega
              have HA0 := hide ha
              have d3 : decide (0 ≤ o) = false := by simp; omega
              have d4 : (o == -1) = false := by simp; omega
              have d5 : (o == -2) = false := by simp; omega
              have d6 : (!(o == -3)) = false := by simp; omega
              clear ha
              go_wp2
              go_round
              case rel => exact ⟨k + 1, c + 1, by omega, by omega, by omega, by go_num, by go_num, by rw [HG.out, HA0.out]; rfl⟩
              case measure => simp [intOf]; omega
            · have ha : arO o = 2 := by unfold arO; (repeat' split) <;> omega
              have HA0 := hide ha
              have d3 : decide (0 ≤ o) = false := by simp; omega
              have d4 : (o == -1) = false := by simp; omega
              have d5 : (o == -2) = false := by simp; omega
              have d6 : (!(o == -3)) = true := by simp; omega
              clear ha
              go_wp2
              go_round
              case rel => exact ⟨k + 1, c + 2, by omega, by omega, by omega, by go_num, by go_num, by rw [HG.out, HA0.out]; rfl⟩
              case measure => simp [intOf]; omega
    · obtain rfl : k = f.length := by omega
      have hv2 := hv.out
      rw [List.drop_length] at hv2
      have HV2 := hide hv2
      clear hv2 hv
      match c, hck, HV2 with
      | 0, hck, HV2 =>
        have HV := hide (HV2.out : endR p (endN N 1 (f.drop p)) = ((f.length + 0 : Nat) : Int))
        go_wp2
        go_ret
        exact ⟨ret_int HV.out.symm, rfl⟩
      | c + 1, hck, HV2 =>
        have HV := hide (HV2.out : endR p (endN N 1 (f.drop p)) = (-1 : Int))
        have j2 : (0 : Int) < ((c + 1 : Nat) : Int) := by omega
        go_wp2
        go_ret
        exact ⟨ret_int HV.out.symm, rfl⟩
set_option maxRecDepth 100000 in
set_option maxHeartbeats 1000000 in
theorem rValid_any (f : List Int) (N : Nat) (v : Value) (B : Nat) (w : World) (hm : f.length ≤ maxLen) (h : Ints w B v f) :
    Calls Try.prog 135 #[v, .int .i64 N] w fun e w' => e = .returned (.bool (validF N f)) ∧ w = w' := by
  have H := hide h
  obtain ⟨A, cap, rfl⟩ := Sl.form h
  clear h
  by_cases h100 : f.length ≤ 100
  · have d1 : decide ((f.length : Int) ≤ 100) = true := by simp; omega
    by_cases h0 : f.length = 0
    · have d2 : decide ((0 : Int) < (f.length : Int)) = false := decide_eq_false (by omega)
      have hf : validF N f = false := by
        obtain rfl := List.eq_nil_of_length_eq_zero h0
        rfl
      have HF := hide hf
      clear hf
      go_enter Try.func135, Try.ntmps135
      go_wp2_with fail
      go_ret
      exact ⟨ret_bool HF.out.symm, rfl⟩
    · have d2 : decide ((0 : Int) < (f.length : Int)) = true := decide_eq_true (by omega)
      have hf : validF N f = (endR 0 (endN N 1 f) == (f.length : Int)) := by
        rw [endN_end]
        unfold validF
        have : decide (f.length ≤ 100) = true := by simp [h100]
        rw [this, Bool.and_true]
      have he := end_any f 0 N (.slice A f.length cap) B w (by omega) (Nat.zero_le _) H.out
      rw [List.drop_zero] at he
      obtain ⟨z, hz⟩ : ∃ z, endR 0 (endN N 1 f) = z := ⟨_, rfl⟩
      rw [hz] at he hf
      have HF := hide hf
      have HE := hide he
      clear hf he hz
      go_enter Try.func135, Try.ntmps135
      go_wp2_with (go_at_call 160; refine HE.out.mono ?_; rintro e w1 ⟨rfl, rfl⟩)
      go_ret
      exact ⟨ret_bool (by rw [HF.out]), rfl⟩
  · have d1 : decide ((f.length : Int) ≤ 100) = false := by simp; omega
    have hf : validF N f = false := by
      unfold validF
      have : decide (f.length ≤ 100) = false := by simp; omega
      rw [this, Bool.and_false]
    have HF := hide hf
    clear hf
    go_enter Try.func135, Try.ntmps135
    go_wp2_with fail
    go_ret
    exact ⟨ret_bool HF.out.symm, rfl⟩
end Go.Proofs.Ytmabfnddedffoaa

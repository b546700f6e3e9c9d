/- The least current for which something is so; selective fuses: walks and the plain law. -/
import Derived.Test.YtejjjijaojkohaaRows
import Derived.Test.YtejjjijaojkohaaW9
import Derived.Deep.RegionHeld3
namespace Go.Proofs.Ytejjjijaojkohaa
open Go.RowKit
set_option linter.unusedVariables false

/-- The least current from 0 to 500 for which p says yes, and -1 if there is none. -/
def leastI (p : Int → Bool) : Int := idxI (fun k : Nat => p k) (List.range 501)
theorem range_getD {j : Nat} (hj : j < 501) : (List.range 501).getD j 0 = j := by
  rw [List.getD_eq_getElem?_getD, List.getElem?_range hj]; rfl
theorem leastI_at (p : Int → Bool) (k : Nat) (h : ∀ j : Nat, j < k → p j = false) (hk : k < 501) (hp : p k = true) : leastI p = k := by
  refine idxI_at _ 0 _ k (fun j hj => ?_) (by simpa using hk) ?_
  · rw [range_getD (by omega)]; exact h j hj
  · rw [range_getD hk]; exact hp
theorem leastI_none (p : Int → Bool) (h : ∀ j : Nat, j < 501 → p j = false) : leastI p = -1 := by
  refine idxI_none _ 0 _ (fun j hj => ?_)
  have hj' : j < 501 := by simpa using hj
  rw [range_getD hj']; exact h j hj'
theorem leastI_cases (p : Int → Bool) : (leastI p = -1 ∧ ∀ j : Nat, j < 501 → p j = false) ∨ ∃ k : Nat, k < 501 ∧ leastI p = k ∧ p k = true ∧ ∀ j : Nat, j < k → p j = false := by
  classical
  by_cases h : ∃ k : Nat, k < 501 ∧ p k = true
  · right
    have hex : ∃ k : Nat, (k < 501 ∧ p k = true) ∧ ∀ j : Nat, j < k → ¬ (j < 501 ∧ p j = true) := by
      obtain ⟨k, hk⟩ := h
      induction k using Nat.strongRecOn with
      | ind k ih =>
        by_cases h2 : ∃ j : Nat, j < k ∧ (j < 501 ∧ p j = true)
        · obtain ⟨j, hj, hj2⟩ := h2
          exact ih j hj hj2
        · exact ⟨k, hk, fun j hj hj2 => h2 ⟨j, hj, hj2⟩⟩
    obtain ⟨k, ⟨hk, hp⟩, hmin⟩ := hex
    have h0 : ∀ j : Nat, j < k → p j = false := fun j hj => by
      have := hmin j hj
      cases hpj : p j with
      | false => rfl
      | true => exact absurd ⟨by omega, hpj⟩ this
    exact ⟨k, hk, leastI_at p k h0 hk hp, hp, h0⟩
  · left
    have h0 : ∀ j : Nat, j < 501 → p j = false := fun j hj => by
      cases hpj : p j with
      | false => rfl
      | true => exact absurd ⟨j, hj, hpj⟩ h
    exact ⟨leastI_none p h0, h0⟩
theorem leastI_neg {p : Int → Bool} (h : leastI p < 0) {a : Int} (h0 : 0 ≤ a) (h1 : a ≤ 500) : p a = false := by
  obtain ⟨k, rfl⟩ := Int.eq_ofNat_of_zero_le h0
  rcases leastI_cases p with ⟨_, h2⟩ | ⟨j, _, h3, _⟩
  · exact h2 k (by omega)
  · omega
theorem leastI_of {p q : Int → Bool} (h : ∀ a, 0 ≤ a → a ≤ 500 → p a = q a) : leastI p = leastI q := by
  rcases leastI_cases p with ⟨h1, h2⟩ | ⟨k, h1, h2, h3, h4⟩
  · rw [h1, leastI_none q (fun j hj => by rw [← h j (by omega) (by omega)]; exact h2 j hj)]
  · rw [h2, leastI_at q k (fun j hj => by rw [← h j (by omega) (by omega)]; exact h4 j hj) h1 (by rw [← h k (by omega) (by omega)]; exact h3)]

theorem blow_range {f : Fu} (hf : f.Ok) {a : Int} (h0 : 0 ≤ a) (h1 : a ≤ 500) : 0 ≤ blowNum f a ∧ blowNum f a ≤ 1000000 ∧ 0 ≤ blowDen f a ∧ blowDen f a ≤ 250000 ∧ (f.rating < a → 1 ≤ blowDen f a ∧ 1 ≤ blowNum f a) ∧ (a ≤ f.rating → blowDen f a = 0 ∧ blowNum f a = 0) := by
  unfold blowNum blowDen
  by_cases hc : a ≤ f.rating
  · simp [hc]
  · have hs := sq_lt hf.rating0 (show f.rating < a by omega)
    obtain ⟨p1, p2⟩ := mul_range h0 h1 h0 h1
    obtain ⟨p3, p4⟩ := mul_range hf.rating0 hf.rating1 hf.rating0 hf.rating1
    have hg := gcd_pos_le (a * a - f.rating * f.rating) hf.melt0
    have hd1 : ((Nat.gcd f.melt.toNat (a * a - f.rating * f.rating).toNat : Nat) : Int) ≤ a * a - f.rating * f.rating := by
      have := Nat.le_of_dvd (show 0 < (a * a - f.rating * f.rating).toNat by omega) (Nat.gcd_dvd_right f.melt.toNat (a * a - f.rating * f.rating).toNat)
      omega
    obtain ⟨d, hd⟩ : ∃ d : Int, ((Nat.gcd f.melt.toNat (a * a - f.rating * f.rating).toNat : Nat) : Int) = d := ⟨_, rfl⟩
    rw [hd] at hg hd1 ⊢
    have m0 := hf.melt0
    have m1 := hf.melt1
    rw [if_neg hc, if_neg hc]
    have e1 : 1 ≤ f.melt / d := by rw [Int.le_ediv_iff_mul_le (by omega)]; omega
    have e2 : f.melt / d ≤ f.melt := Int.ediv_le_self _ (by omega)
    have e3 : 1 ≤ (a * a - f.rating * f.rating) / d := by rw [Int.le_ediv_iff_mul_le (by omega)]; omega
    have e4 : (a * a - f.rating * f.rating) / d ≤ (a * a - f.rating * f.rating) := Int.ediv_le_self _ (by omega)
    refine ⟨by omega, by omega, by omega, by omega, fun _ => ⟨e3, e1⟩, fun h => absurd h (by omega)⟩

/-- Under this current upper opens, and lower not before. -/
def selB (lo up : Fu) (a : Int) : Bool := decide (0 < blowDen up a) && (decide (blowDen lo a = 0) || decide (blowNum up a * blowDen lo a ≤ blowNum lo a * blowDen up a))
def selErr (lo up : Fu) : Int := if lo.ok && up.ok then 0 else 72
def selVal (lo up : Fu) : Int := if lo.ok && up.ok then leastI (selB lo up) else 0

theorem sel_trans (lo mi up : Fu) (h1 : lo.Ok) (h2 : mi.Ok) (h3 : up.Ok) (ha : leastI (selB lo mi) < 0) (hb : leastI (selB mi up) < 0) : leastI (selB lo up) = -1 := by
  refine leastI_none _ fun j hj => ?_
  have p1 := leastI_neg ha (a := j) (by omega) (by omega)
  have p2 := leastI_neg hb (a := j) (by omega) (by omega)
  have r1 := blow_range h1 (a := j) (by omega) (by omega)
  have r2 := blow_range h2 (a := j) (by omega) (by omega)
  have r3 := blow_range h3 (a := j) (by omega) (by omega)
  unfold selB at p1 p2 ⊢
  obtain ⟨a, ha'⟩ : ∃ a, blowNum lo j = a := ⟨_, rfl⟩
  obtain ⟨b, hb'⟩ : ∃ b, blowDen lo j = b := ⟨_, rfl⟩
  obtain ⟨c, hc'⟩ : ∃ c, blowNum mi j = c := ⟨_, rfl⟩
  obtain ⟨d, hd'⟩ : ∃ d, blowDen mi j = d := ⟨_, rfl⟩
  obtain ⟨e, he'⟩ : ∃ e, blowNum up j = e := ⟨_, rfl⟩
  obtain ⟨f, hf'⟩ : ∃ f, blowDen up j = f := ⟨_, rfl⟩
  rw [ha', hb', hc', hd'] at p1
  rw [hc', hd', he', hf'] at p2
  rw [ha', hb', he', hf']
  rw [ha', hb'] at r1
  rw [hc', hd'] at r2
  rw [he', hf'] at r3
  simp only [Bool.and_eq_false_iff, Bool.or_eq_false_iff, decide_eq_false_iff_not] at p1 p2 ⊢
  by_cases hf0 : 0 < f
  · right
    rcases p2 with p2 | ⟨q1, q2⟩
    · omega
    · rcases p1 with p1 | ⟨q3, q4⟩
      · omega
      · refine ⟨q3, ?_⟩
        have hb0 : 0 < b := by omega
        have hd0 : 0 < d := by omega
        have s1 : a * d < c * b := by omega
        have s2 : c * f < e * d := by omega
        intro h4
        have t1 : a * d * f < c * b * f := Int.mul_lt_mul_of_pos_right s1 hf0
        have t2 : c * f * b < e * d * b := Int.mul_lt_mul_of_pos_right s2 hb0
        have t3 : e * b * d ≤ a * f * d := Int.mul_le_mul_of_nonneg_right h4 (by omega)
        have u1 : c * b * f = c * f * b := by rw [Int.mul_assoc, Int.mul_comm b f, ← Int.mul_assoc]
        have u2 : e * d * b = e * b * d := by rw [Int.mul_assoc, Int.mul_comm d b, ← Int.mul_assoc]
        have u3 : a * d * f = a * f * d := by rw [Int.mul_assoc, Int.mul_comm d f, ← Int.mul_assoc]
        omega
  · left
    exact hf0

set_option maxRecDepth 100000 in
theorem least_sel (p : Int → Bool) (c0 c1 : Value) (w : World) (hf : ∀ (a : Int) (W : World), 0 ≤ a → a ≤ 500 → Below w.heap.size w W → Calls Try.prog 96 #[.int .i64 a, c0, c1] W fun e w' => e = .returned (.bool (p a)) ∧ Below W.heap.size W w') :
    Calls Try.prog 95 #[.func (.func 96) #[] #[c0, c1]] w fun e w' => e = .returned (.int .i64 (leastI p)) ∧ Below w.heap.size w w' := by
  have HF := hide hf; clear hf
  go_enter Try.func95, Try.ntmps95
  go_wp2
  go_loopw [3, 4] (fun _ i wr => ∃ k : Nat, k ≤ 501 ∧ i = .int .i64 k ∧ Hid (∀ j : Nat, j < k → p j = false) ∧ Below w.heap.size w wr) (fun _ i _ => 501 - (intOf i).toNat)
  case atStart => exact ⟨0, by omega, rfl, fun j hj => by omega, Below.refl _ _⟩
  case round =>
    obtain ⟨k, hk, rfl, hz, hB⟩ := hrel
    by_cases hlt : k < 501
    · by_cases hp : p k = true
      · have HP := hide hp
        go_wp2_with (go_at_call 96; refine (HF.out (k : Int) _ (by omega) (by omega) hB).mono ?_; rw [hp]; rintro e w1 ⟨rfl, hB1⟩)
        go_ret
        exact ⟨ret_int (leastI_at p k hz.out hlt HP.out).symm, (by repeat (first | exact Below.refl _ _ | assumption | refine Below.drew ?_ | refine Below.drewN ?_ _ | refine Below.allocT ?_ (Nat.le_refl _) _ | refine Below.setCell ?_ (by simp <;> omega) _ | refine Below.to ?_ (by assumption) (Nat.le_refl _)))⟩
      · have hp' : p k = false := by simpa using hp
        clear hp
        have HP := hide hp'
        go_wp2_with (go_at_call 96; refine (HF.out (k : Int) _ (by omega) (by omega) hB).mono ?_; rw [hp']; rintro e w1 ⟨rfl, hB1⟩)
        go_roundw
        case rel => exact ⟨k + 1, by omega, by go_num, fun j hj => by
            rcases Nat.lt_or_ge j k with h | h
            · exact hz.out j h
            · rw [show j = k from by omega]; exact HP.out, (by repeat (first | exact Below.refl _ _ | assumption | refine Below.drew ?_ | refine Below.drewN ?_ _ | refine Below.allocT ?_ (Nat.le_refl _) _ | refine Below.setCell ?_ (by simp <;> omega) _ | refine Below.to ?_ (by assumption) (Nat.le_refl _)))⟩
        case measure => simp [intOf]; omega
    · go_wp2
      go_ret
      exact ⟨ret_int (leastI_none p (fun j hj => hz.out j (by omega))).symm, (by repeat (first | exact Below.refl _ _ | assumption | refine Below.drew ?_ | refine Below.drewN ?_ _ | refine Below.allocT ?_ (Nat.le_refl _) _ | refine Below.setCell ?_ (by simp <;> omega) _ | refine Below.to ?_ (by assumption) (Nat.le_refl _)))⟩

end Go.Proofs.Ytejjjijaojkohaa

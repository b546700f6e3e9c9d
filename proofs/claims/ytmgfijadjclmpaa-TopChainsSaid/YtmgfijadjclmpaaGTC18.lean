/- Part 18 of this claim's texts: walks and plain laws. -/
import Derived.Test.YtmgfijadjclmpaaRows
import Derived.Test.YtmgfijadjclmpaaGTC9
import Derived.Test.YtmgfijadjclmpaaGTC15
import Derived.Test.YtmgfijadjclmpaaGTC16
import Derived.Test.YtmgfijadjclmpaaGTC17
/- The longest response of a frame: plain law. -/
namespace Go.Proofs.Ytmgfijadjclmpaa
set_option linter.unusedVariables false
set_option linter.unusedSimpArgs false
theorem st_end (y : Sys) (en : Nat → Int) (i : Nat) : en i = y.st en i + y.S (y.fr i) := by unfold Sys.st; omega
theorem Sched.fifo {y : Sys} {en : Nat → Int} (h : Sched y en) (ok : y.Ok) (k : Kept y) {i j : Nat} (hij : i < j) (hj : j < y.n) (he : y.fr i = y.fr j) : y.st en i < y.st en j := by
  have hi : i < y.n := by omega
  have h1 := ok.S _ (ok.fr i hi)
  have h2 := ok.S _ (ok.fr j hj)
  have h3 := st_end y en i
  have h4 := st_end y en j
  rcases h.one i j hi hj (by omega) with h5 | h5
  · omega
  · exfalso
    have h6 := k.mono i j hij hj he
    have h7 := h.rel j hj
    rcases h.pri j i hj hi (by omega) (by omega) (by omega) with h8 | ⟨_, h8⟩
    · rw [he] at h8
      omega
    · omega
/-- While something of at least this rank waits or is sent, and the blocking is over, such a thing is sent. -/
theorem Sched.busyAt {y : Sys} {en : Nat → Int} (h : Sched y en) (ok : y.Ok) {f : Nat} (hf : f < y.m) {block s z : Int} (hb0 : 0 ≤ block) (hb : ∀ g, g < y.m → y.R f < y.R g → y.S g - 1 ≤ block)
    (hq : ∀ i, i < y.n → y.R (y.fr i) ≤ y.R f → y.tm i < s → en i ≤ s) (hp : ∀ t, s ≤ t → t < z → ∃ i, i < y.n ∧ y.R (y.fr i) ≤ y.R f ∧ y.tm i ≤ t ∧ t < en i) {t : Int} (h1 : s + block ≤ t) (h2 : t < z) :
    ∃ i, i < y.n ∧ y.R (y.fr i) ≤ y.R f ∧ s ≤ y.tm i ∧ y.st en i ≤ t ∧ t < en i := by
  obtain ⟨i, hi, hr, ha, he⟩ := hp t (by omega) h2
  obtain ⟨j, hj, hj1, hj2⟩ : ∃ j, j < y.n ∧ y.st en j ≤ t ∧ t < en j := by
    rcases Int.lt_or_le t (y.st en i) with h3 | h3
    · exact h.wrk i t hi ha h3
    · exact ⟨i, hi, h3, he⟩
  by_cases hrj : y.R (y.fr j) ≤ y.R f
  · refine ⟨j, hj, hrj, ?_, hj1, hj2⟩
    rcases Int.lt_or_le (y.tm j) s with h3 | h3
    · have := hq j hj hrj h3
      omega
    · exact h3
  · exfalso
    have hbj := hb _ (ok.fr j hj) (by omega)
    have hej := st_end y en j
    have hsj := ok.S _ (ok.fr j hj)
    rcases Int.lt_or_le (y.st en j) s with h3 | h3
    · omega
    · obtain ⟨i', hi', hr', ha', he'⟩ := hp (y.st en j) h3 (by omega)
      have hne : j ≠ i' := fun e => hrj (by rw [e]; exact hr')
      have hei := st_end y en i'
      have hsi := ok.S _ (ok.fr i' hi')
      rcases h.one j i' hj hi' hne with h4 | h4
      · rcases h.pri j i' hj hi' hne ha' (by omega) with h5 | ⟨h5, _⟩
        · omega
        · rw [h5] at hrj
          exact hrj hr'
      · omega
theorem Sched.served {y : Sys} {en : Nat → Int} (h : Sched y en) (ok : y.Ok) {f : Nat} {block s z : Int}
    (hbz : ∀ t, s + block ≤ t → t < z → ∃ i, i < y.n ∧ y.R (y.fr i) ≤ y.R f ∧ s ≤ y.tm i ∧ y.st en i ≤ t ∧ t < en i) : ∀ d : Nat, s + block + d ≤ z →
    (d : Int) ≤ sumI (fun i => if y.R (y.fr i) ≤ y.R f ∧ s ≤ y.tm i then clmI (s + block + d - y.st en i) (y.S (y.fr i)) else 0) y.n
  | 0, _ => sumI_nonneg fun i hi => by
    have := ok.S _ (ok.fr i hi)
    split
    · exact clmI_nonneg (by omega)
    · exact Int.le_refl _
  | d + 1, hd => by
    have h1 := Sched.served h ok hbz d (by omega)
    obtain ⟨i, hi, hr, hs, ha, he⟩ := hbz (s + block + d) (by omega) (by omega)
    have h2 : sumI (fun i => if y.R (y.fr i) ≤ y.R f ∧ s ≤ y.tm i then clmI (s + block + d - y.st en i) (y.S (y.fr i)) else 0) y.n + 1 ≤ sumI (fun i => if y.R (y.fr i) ≤ y.R f ∧ s ≤ y.tm i then clmI (s + block + (d + 1 : Nat) - y.st en i) (y.S (y.fr i)) else 0) y.n := by
      refine sumI_one hi (fun j hj => ?_) ?_
      · have := ok.S _ (ok.fr j hj)
        split
        · exact clmI_mono (by omega) (by omega)
        · exact Int.le_refl _
      · rw [if_pos ⟨hr, hs⟩, if_pos ⟨hr, hs⟩]
        have h3 := st_end y en i
        have h4 := clmI_step (x := s + block + d - y.st en i) (c := y.S (y.fr i)) (by omega) (by omega)
        have e : s + block + (d + 1 : Nat) - y.st en i = s + block + d - y.st en i + 1 := by omega
        rw [e]
        exact h4
    omega
/-- Of the releases of a frame that come before one, those behind a time are the last ones. -/
theorem Kept.tail {y : Sys} (ok : y.Ok) (k : Kept y) (s : Int) {T : Nat} (hT : T < y.n) (hs : s ≤ y.tm T) : ∃ q : Nat, sumI (fun i => if y.fr i = y.fr T ∧ s ≤ y.tm i then 1 else 0) T = q ∧ q ≤ y.num T ∧ s ≤ ((y.num T : Int) - q) * y.E (y.fr T) + y.J (y.fr T) := by
  have key : ∀ x, x ≤ T → (sumI (fun i => if y.fr i = y.fr T ∧ s ≤ y.tm i then 1 else 0) x = 0) ∨ ∃ i q : Nat, i < x ∧ y.fr i = y.fr T ∧ s ≤ y.tm i ∧ sumI (fun i => if y.fr i = y.fr T ∧ s ≤ y.tm i then 1 else 0) x = q ∧ q + y.num i = cntF y.fr (y.fr T) x := by
    intro x
    induction x with
    | zero => exact fun _ => .inl rfl
    | succ x ih =>
      intro hx
      show sumI (fun i => if y.fr i = y.fr T ∧ s ≤ y.tm i then 1 else 0) x + (if y.fr x = y.fr T ∧ s ≤ y.tm x then 1 else 0) = 0 ∨ ∃ i q : Nat, i < x + 1 ∧ y.fr i = y.fr T ∧ s ≤ y.tm i ∧ sumI (fun i => if y.fr i = y.fr T ∧ s ≤ y.tm i then 1 else 0) x + (if y.fr x = y.fr T ∧ s ≤ y.tm x then 1 else 0) = q ∧ q + y.num i = cntF y.fr (y.fr T) x + (if y.fr x = y.fr T then 1 else 0)
      by_cases hf : y.fr x = y.fr T
      · by_cases hsx : s ≤ y.tm x
        · rw [if_pos ⟨hf, hsx⟩, if_pos hf]
          rcases ih (by omega) with h1 | ⟨i, q, h1, h2, h3, h4, h5⟩
          · refine .inr ⟨x, 1, by omega, hf, hsx, by omega, ?_⟩
            unfold Sys.num
            rw [hf]
            omega
          · exact .inr ⟨i, q + 1, by omega, h2, h3, by omega, by omega⟩
        · rw [if_neg (fun h => hsx h.2), if_pos hf]
          rcases ih (by omega) with h1 | ⟨i, q, h1, h2, h3, h4, h5⟩
          · exact .inl (by omega)
          · exact absurd (k.mono i x h1 (by omega) (by rw [h2, hf])) (by omega)
      · rw [if_neg (fun h => hf h.1), if_neg hf]
        rcases ih (by omega) with h1 | ⟨i, q, h1, h2, h3, h4, h5⟩
        · exact .inl (by omega)
        · exact .inr ⟨i, q, by omega, h2, h3, by omega, by omega⟩
  rcases key T (Nat.le_refl _) with h1 | ⟨i, q, h1, h2, h3, h4, h5⟩
  · refine ⟨0, h1, Nat.zero_le _, ?_⟩
    have := k.hi T hT
    simp only [Int.sub_zero, Int.natCast_zero]
    omega
  · have h6 := k.hi i (by omega)
    rw [h2] at h6
    have h7 : y.num T = cntF y.fr (y.fr T) T := rfl
    refine ⟨q, h4, by omega, ?_⟩
    have e : ((y.num T : Int) - q) = (y.num i : Int) := by omega
    rw [e]
    omega
theorem resp_le {y : Sys} {en : Nat → Int} (ok : y.Ok) (h : Sched y en) (k : Kept y) {T : Nat} (hT : T < y.n) {f : Nat} (hf : y.fr T = f) (block : Int) (hb0 : 0 ≤ block) (hb : ∀ g, g < y.m → y.R f < y.R g → y.S g - 1 ≤ block)
    (busy : Int) (h1 : 1 ≤ busy) (hB : block + sumI (fun g => if y.R g ≤ y.R f then upI (busy + y.J g) (y.E g) * y.S g else 0) y.m = busy) (rsp : Int)
    (hw : ∀ q : Int, 0 ≤ q → q < upI (busy + y.J f) (y.E f) → ∃ w, 0 ≤ w ∧ block + q * y.S f + sumI (fun g => if y.R g < y.R f then ((w + y.J g) / y.E g + 1) * y.S g else 0) y.m = w ∧ w + y.S f + y.J f - q * y.E f ≤ rsp) :
    en T ≤ (y.num T : Int) * y.E f + rsp := by
  have hfm : f < y.m := by rw [← hf]; exact ok.fr T hT
  have hSf := ok.S f hfm
  have hEf := ok.E f hfm
  have hJf := ok.J f hfm
  have htm := ok.tm T hT
  have hend := st_end y en T
  rw [hf] at hend
  have hrel := h.rel T hT
  obtain ⟨s, hs0, hs1, hq, hlast⟩ := last_quiet (fun s => ∀ i, i < y.n → y.R (y.fr i) ≤ y.R f → y.tm i < s → en i ≤ s) (fun i hi _ h => absurd (ok.tm i hi) (by omega)) (y.tm T).toNat
  rw [Int.toNat_of_nonneg htm] at hs1 hlast
  have hpend : ∀ t, s < t → t ≤ y.tm T → ∃ i, i < y.n ∧ y.R (y.fr i) ≤ y.R f ∧ y.tm i < t ∧ t < en i := fun t ha hb => by
    have h2 := hlast t ha hb
    simp only [Classical.not_forall] at h2
    obtain ⟨i, hi, hr, ht, he⟩ := h2
    exact ⟨i, hi, hr, ht, by omega⟩
  have hp : ∀ t, s ≤ t → t < en T → ∃ i, i < y.n ∧ y.R (y.fr i) ≤ y.R f ∧ y.tm i ≤ t ∧ t < en i := fun t ha hb => by
    rcases Int.lt_or_le t (y.tm T) with h2 | h2
    · obtain ⟨i, hi, hr, ht, he⟩ := hpend (t + 1) (by omega) (by omega)
      exact ⟨i, hi, hr, by omega, by omega⟩
    · exact ⟨T, hT, by rw [hf]; exact Int.le_refl _, h2, hb⟩
  have hbz : ∀ t, s + block ≤ t → t < en T → ∃ i, i < y.n ∧ y.R (y.fr i) ≤ y.R f ∧ s ≤ y.tm i ∧ y.st en i ≤ t ∧ t < en i := fun t ha hbt => h.busyAt ok hfm hb0 hb hq hp ha hbt
  -- the window is not longer than busy
  have hbb : block ≤ busy := by
    have h2 : 0 ≤ sumI (fun g => if y.R g ≤ y.R f then upI (busy + y.J g) (y.E g) * y.S g else 0) y.m := sumI_nonneg fun g hg => by
      have := ok.S g hg
      have := ok.E g hg
      have := ok.J g hg
      split
      · refine Int.mul_nonneg ?_ (by omega)
        exact Int.ediv_nonneg (by omega) (by omega)
      · exact Int.le_refl _
    omega
  have hwin : y.tm T < s + busy := by
    rcases Int.lt_or_le (y.tm T) (s + busy) with h2 | h2
    · exact h2
    exfalso
    obtain ⟨x, hx, hxr, hxt, hxe⟩ := hpend (s + busy) (by omega) h2
    have hxs : s ≤ y.tm x := by
      rcases Int.lt_or_le (y.tm x) s with h3 | h3
      · have := hq x hx hxr h3
        omega
      · exact h3
    have hv := h.served ok hbz (busy - block).toNat (by omega)
    rw [Int.toNat_of_nonneg (by omega)] at hv
    have e : s + block + (busy - block) = s + busy := by omega
    rw [e] at hv
    have h3 : sumI (fun i => if y.R (y.fr i) ≤ y.R f ∧ s ≤ y.tm i then clmI (s + busy - y.st en i) (y.S (y.fr i)) else 0) y.n + 1 ≤ sumI (fun i => if y.R (y.fr i) ≤ y.R f ∧ (s ≤ y.tm i ∧ y.tm i ≤ s + busy - 1) then y.S (y.fr i) else 0) y.n := by
      refine sumI_one hx (fun i hi => ?_) ?_
      · have hSi := ok.S _ (ok.fr i hi)
        have hri := h.rel i hi
        by_cases h4 : y.R (y.fr i) ≤ y.R f ∧ s ≤ y.tm i
        · rw [if_pos h4]
          by_cases h5 : y.tm i ≤ s + busy - 1
          · rw [if_pos ⟨h4.1, h4.2, h5⟩]
            exact clmI_le (by omega)
          · rw [if_neg (fun h => h5 h.2.2), clmI_zero (by omega)]
            exact Int.le_refl _
        · rw [if_neg h4, if_neg (fun h => h4 ⟨h.1, h.2.1⟩)]
          exact Int.le_refl _
      · rw [if_pos ⟨hxr, hxs⟩, if_pos ⟨hxr, hxs, by omega⟩]
        have := st_end y en x
        exact clmI_less (ok.S _ (ok.fr x hx)) (by omega)
    have h4 := by_frame ok (fun i => s ≤ y.tm i ∧ y.tm i ≤ s + busy - 1) (fun g => y.R g ≤ y.R f) (fun g => upI (busy + y.J g) (y.E g)) fun g hg _ => by
      have hE := ok.E g hg
      have hJ := ok.J g hg
      have h5 := win_count ok k hg s (s + busy - 1) (by omega)
      have e1 : upI (busy + y.J g) (y.E g) = (s + busy - 1 - s + y.J g) / y.E g + 1 := by
        unfold upI
        rw [show busy + y.J g + y.E g - 1 = (s + busy - 1 - s + y.J g) + y.E g * 1 by omega, Int.add_mul_ediv_left _ _ (by omega)]
      rw [e1]
      exact h5
    omega
  obtain ⟨q, hq1, hq2, hq3⟩ := k.tail ok s hT hs1
  rw [hf] at hq1 hq3
  have hlo := k.lo T hT
  rw [hf] at hlo
  have hqu : (q : Int) < upI (busy + y.J f) (y.E f) := by
    unfold upI
    have h2 : (q : Int) ≤ (busy + y.J f - 1) / y.E f := (Int.le_ediv_iff_mul_le (by omega)).2 (by rw [Int.sub_mul] at hq3; omega)
    have e1 : (busy + y.J f + y.E f - 1) / y.E f = (busy + y.J f - 1) / y.E f + 1 := by
      rw [show busy + y.J f + y.E f - 1 = (busy + y.J f - 1) + y.E f * 1 by omega, Int.add_mul_ediv_left _ _ (by omega)]
    omega
  obtain ⟨w, hw0, hw1, hw2⟩ := hw q (by omega) hqu
  have hst : y.st en T ≤ s + w := by
    rcases Int.lt_or_le (s + w) (y.st en T) with h2 | h2
    case inr => exact h2
    exfalso
    have hwb : block ≤ w := by
      have h3 : 0 ≤ q * y.S f := Int.mul_nonneg (by omega) (by omega)
      have h4 : 0 ≤ sumI (fun g => if y.R g < y.R f then ((w + y.J g) / y.E g + 1) * y.S g else 0) y.m := sumI_nonneg fun g hg => by
        have := ok.S g hg
        have := ok.E g hg
        have := ok.J g hg
        split
        · refine Int.mul_nonneg ?_ (by omega)
          have := Int.ediv_nonneg (a := w + y.J g) (b := y.E g) (by omega) (by omega)
          omega
        · exact Int.le_refl _
      omega
    have hv := h.served ok hbz (w + 1 - block).toNat (by omega)
    rw [Int.toNat_of_nonneg (by omega)] at hv
    have e : s + block + (w + 1 - block) = s + w + 1 := by omega
    rw [e] at hv
    have h3 : sumI (fun i => if y.R (y.fr i) ≤ y.R f ∧ s ≤ y.tm i then clmI (s + w + 1 - y.st en i) (y.S (y.fr i)) else 0) y.n ≤ sumI (fun i => (if y.R (y.fr i) < y.R f ∧ (s ≤ y.tm i ∧ y.tm i ≤ s + w) then y.S (y.fr i) else 0) + (if (y.fr i = f ∧ s ≤ y.tm i) ∧ i < T then y.S f else 0)) y.n := by
      refine sumI_le fun i hi => ?_
      have hSi := ok.S _ (ok.fr i hi)
      have hri := h.rel i hi
      have n1 : (0 : Int) ≤ if y.R (y.fr i) < y.R f ∧ (s ≤ y.tm i ∧ y.tm i ≤ s + w) then y.S (y.fr i) else 0 := by split <;> omega
      have n2 : (0 : Int) ≤ if (y.fr i = f ∧ s ≤ y.tm i) ∧ i < T then y.S f else 0 := by split <;> omega
      by_cases h4 : y.R (y.fr i) ≤ y.R f ∧ s ≤ y.tm i
      · rw [if_pos h4]
        by_cases h5 : y.fr i = f
        · by_cases h6 : i < T
          · have hc : (y.fr i = f ∧ s ≤ y.tm i) ∧ i < T := ⟨⟨h5, h4.2⟩, h6⟩
            rw [if_pos hc, h5]
            rw [h5] at n1
            have := clmI_le (x := s + w + 1 - y.st en i) (c := y.S f) (by omega)
            omega
          · have h7 : y.st en T ≤ y.st en i := by
              rcases Nat.lt_or_ge T i with h8 | h8
              · exact Int.le_of_lt (h.fifo ok k h8 hi (by rw [hf, h5]))
              · have : i = T := by omega
                rw [this]
                exact Int.le_refl _
            rw [clmI_zero (by omega)]
            omega
        · have h6 : y.R (y.fr i) < y.R f := by
            rcases Int.lt_or_le (y.R (y.fr i)) (y.R f) with h6 | h6
            · exact h6
            · exact absurd (ok.R _ _ (ok.fr i hi) hfm (by omega)) h5
          by_cases h7 : y.tm i ≤ s + w
          · rw [if_pos ⟨h6, h4.2, h7⟩]
            have := clmI_le (x := s + w + 1 - y.st en i) (c := y.S (y.fr i)) (by omega)
            omega
          · rw [clmI_zero (by omega)]
            omega
      · rw [if_neg h4]
        omega
    rw [sumI_add, sumI_cut (p := fun i => y.fr i = f ∧ s ≤ y.tm i) (by omega)] at h3
    have e2 : sumI (fun i => if y.fr i = f ∧ s ≤ y.tm i then y.S f else 0) T = q * y.S f := by
      rw [← hq1, ← sumI_mul]
      refine sumI_congr fun i hi => ?_
      split
      · rw [Int.one_mul]
      · rw [Int.zero_mul]
    rw [e2] at h3
    have h4 := by_frame ok (fun i => s ≤ y.tm i ∧ y.tm i ≤ s + w) (fun g => y.R g < y.R f) (fun g => (w + y.J g) / y.E g + 1) fun g hg _ => by
      have hE := ok.E g hg
      have hJ := ok.J g hg
      have h5 := win_count ok k hg s (s + w) (by omega)
      rw [show s + w - s + y.J g = w + y.J g by omega] at h5
      exact h5
    omega
  rw [Int.sub_mul] at hq3
  omega
end Go.Proofs.Ytmgfijadjclmpaa
/- The theorem of the deadlines: what the law's rows hold. Plain laws. -/
namespace Go.Proofs.Ytmgfijadjclmpaa
open Go.RowKit
set_option linter.unusedVariables false
set_option linter.unusedSimpArgs false
/-- What the first m releases of a frame hold, in order. -/
def selF (fr : Nat → Nat) (x : Nat → Int) (f : Nat) : Nat → List Int
  | 0 => []
  | m + 1 => if fr m = f then selF fr x f m ++ [x m] else selF fr x f m
theorem selF_yes {fr : Nat → Nat} {x : Nat → Int} {f m : Nat} (h : fr m = f) : selF fr x f (m + 1) = selF fr x f m ++ [x m] := if_pos h
theorem selF_no {fr : Nat → Nat} {x : Nat → Int} {f m : Nat} (h : fr m ≠ f) : selF fr x f (m + 1) = selF fr x f m := if_neg h
theorem selF_len (fr : Nat → Nat) (x : Nat → Int) (f : Nat) : ∀ m, (selF fr x f m).length = cntF fr f m
  | 0 => rfl
  | m + 1 => by
    show (selF fr x f (m + 1)).length = cntF fr f m + if fr m = f then 1 else 0
    by_cases h : fr m = f
    · rw [selF_yes h, if_pos h, List.length_append, selF_len fr x f m]
      rfl
    · rw [selF_no h, if_neg h, selF_len fr x f m]
      rfl
theorem selF_at {fr : Nat → Nat} {f : Nat} : ∀ {m k : Nat}, k < cntF fr f m → ∃ i, i < m ∧ fr i = f ∧ cntF fr f i = k ∧ ∀ x : Nat → Int, (selF fr x f m).getD k 0 = x i
  | 0, k, h => absurd h (by show ¬ k < 0; omega)
  | m + 1, k, h => by
    have hc : cntF fr f (m + 1) = cntF fr f m + if fr m = f then 1 else 0 := rfl
    rw [hc] at h
    rcases Nat.lt_or_ge k (cntF fr f m) with h1 | h1
    · obtain ⟨i, a, b, c, d⟩ := selF_at (m := m) h1
      refine ⟨i, by omega, b, c, fun x => ?_⟩
      by_cases hf : fr m = f
      · rw [selF_yes hf, getD_pushT (by rw [selF_len]; exact h1)]
        exact d x
      · rw [selF_no hf]
        exact d x
    · by_cases hf : fr m = f
      · rw [if_pos hf] at h
        refine ⟨m, by omega, hf, by omega, fun x => ?_⟩
        rw [selF_yes hf, getD_lastT (by rw [selF_len]; omega)]
      · rw [if_neg hf] at h
        omega
theorem cntF_mono (fr : Nat → Nat) (f : Nat) : ∀ {m n : Nat}, m ≤ n → cntF fr f m ≤ cntF fr f n
  | m, 0, h => by
    have : m = 0 := by omega
    subst this
    exact Nat.le_refl _
  | m, n + 1, h => by
    rcases Nat.lt_or_ge n m with h1 | h1
    · have : m = n + 1 := by omega
      subst this
      exact Nat.le_refl _
    · have := cntF_mono fr f h1
      show _ ≤ cntF fr f n + _
      omega
theorem sum_split {y : Sys} (ok : y.Ok) {f : Nat} (hf : f < y.m) (t : Nat → Int) : sumI (fun g => if y.R g ≤ y.R f then t g else 0) y.m = t f + sumI (fun g => if y.R g < y.R f then t g else 0) y.m := by
  rw [← sumI_pick (g0 := f) (c := t f) hf, ← sumI_add]
  refine sumI_congr fun g hg => ?_
  by_cases e : f = g
  · subst e
    rw [if_pos (Int.le_refl _), if_pos rfl, if_neg (by omega)]
    omega
  · rw [if_neg e]
    by_cases h : y.R g < y.R f
    · rw [if_pos (by omega), if_pos h]
      omega
    · rw [if_neg h, if_neg (fun h2 => e (ok.R f g hf hg (by omega)))]
      rfl
theorem hiL_at {l : List Fr} {f i : Nat} (h : i < l.length) : (hiL l f).getD i false = decide ((l.getD i Fr.o).r < (l.getD f Fr.o).r) := rngB_at false h
theorem loadE_hi (l : List Fr) (f : Nat) (m : Nat → Int) : loadE l (hiL l f) m l.length = sumI (fun g => if (l.getD g Fr.o).r < (l.getD f Fr.o).r then m g * (l.getD g Fr.o).s else 0) l.length := by
  refine sumI_congr fun i hi => ?_
  rw [hiL_at hi]
  by_cases h : (l.getD i Fr.o).r < (l.getD f Fr.o).r
  · rw [if_pos h, if_pos (by simpa using h)]
  · rw [if_neg h, if_neg (by simpa using h)]
/-- No release of a frame ends later than its response says. -/
theorem resp_top {l : List Fr} {rs : List Rl} {en : Nat → Int} (hc : chkR l rs = 0) (hs : Sched (sysOf l rs) en) (hk : Kept (sysOf l rs)) {f : Nat} {r bl busy : Int} (hp : RespP l (hiL l f) f r bl busy) {i : Nat} (hi : i < rs.length) (hf : (sysOf l rs).fr i = f) :
    en i ≤ ((sysOf l rs).num i : Int) * (l.getD f Fr.o).e + r := by
  have ok := sys_ok hc
  have hfm : f < l.length := by rw [← hf]; exact ok.fr i hi
  refine resp_le ok hs hk (T := i) hi hf bl hp.bl0 (fun g hg hr => ?_) busy hp.b0 ?_ r fun q hq0 hq1 => ?_
  · have hr' : (l.getD f Fr.o).r < (l.getD g Fr.o).r := hr
    refine hp.bl1 g hg (fun e => ?_) ?_
    · subst e
      omega
    · rw [hiL_at hg]
      exact decide_eq_false (by omega)
  · have h1 := hp.bus
    unfold busF at h1
    rw [loadE_hi] at h1
    have h2 := sum_split ok hfm fun g => upI (busy + (sysOf l rs).J g) ((sysOf l rs).E g) * (sysOf l rs).S g
    rw [h2]
    have e1 : upI (busy + (sysOf l rs).J f) ((sysOf l rs).E f) * (sysOf l rs).S f = upI (busy + (l.getD f Fr.o).j) (l.getD f Fr.o).e * (l.getD f Fr.o).s := rfl
    rw [e1, ← Int.add_assoc]
    exact h1
  · obtain ⟨k, rfl⟩ := Int.eq_ofNat_of_zero_le hq0
    obtain ⟨w, h1, h2, h3⟩ := hp.wait k hq1
    refine ⟨w, h1, ?_, h3⟩
    unfold waitF at h2
    rw [loadE_hi] at h2
    exact h2
/-- The law's rows. -/
def staL (l : List Fr) (rs : List Rl) (ks : List Int) (n : Nat) : List (List Int) := (List.range n).map fun i => selF (sysOf l rs).fr (sysOf l rs).tm (ks.getD i 0).toNat rs.length
def stoL (l : List Fr) (rs : List Rl) (ks : List Int) (en : Nat → Int) (n : Nat) : List (List Int) := (List.range n).map fun i => selF (sysOf l rs).fr en (ks.getD i 0).toNat rs.length
theorem staL_len (l : List Fr) (rs : List Rl) (ks : List Int) (n : Nat) : (staL l rs ks n).length = n := by simp [staL]
theorem stoL_len (l : List Fr) (rs : List Rl) (ks : List Int) (en : Nat → Int) (n : Nat) : (stoL l rs ks en n).length = n := by simp [stoL]
theorem staL_at {l : List Fr} {rs : List Rl} {ks : List Int} {n i : Nat} (h : i < n) : (staL l rs ks n).getD i [] = selF (sysOf l rs).fr (sysOf l rs).tm (ks.getD i 0).toNat rs.length := by simp [staL, h]
theorem stoL_at {l : List Fr} {rs : List Rl} {ks : List Int} {en : Nat → Int} {n i : Nat} (h : i < n) : (stoL l rs ks en n).getD i [] = selF (sysOf l rs).fr en (ks.getD i 0).toNat rs.length := by simp [stoL, h]
theorem staL_snoc (l : List Fr) (rs : List Rl) (ks : List Int) (n : Nat) : staL l rs ks (n + 1) = staL l rs ks n ++ [selF (sysOf l rs).fr (sysOf l rs).tm (ks.getD n 0).toNat rs.length] := by simp [staL, List.range_succ]
theorem stoL_snoc (l : List Fr) (rs : List Rl) (ks : List Int) (en : Nat → Int) (n : Nat) : stoL l rs ks en (n + 1) = stoL l rs ks en n ++ [selF (sysOf l rs).fr en (ks.getD n 0).toNat rs.length] := by simp [stoL, List.range_succ]
theorem py_ok {l : List Fr} {rs : List Rl} {ks : List Int} {en : Nat → Int} {ss : List Stp} (hc : chkR l rs = 0) (hs : Sched (sysOf l rs) en) (hk : Kept (sysOf l rs)) (hl : ss.length = ks.length) (hst : ∀ i, i < ks.length → StepOk l (ks.getD i 0).toNat (ss.getD i Stp.o)) :
    PyOk ss (staL l rs ks ks.length) (stoL l rs ks en ks.length) := by
  have ok := sys_ok hc
  have hn := (chkR_ok hc).2.1
  refine ⟨by rw [staL_len, hl], by rw [stoL_len, hl], fun i hi => ?_, fun i k hi hkl => ?_, fun i k hi hkl => ?_⟩
  · rw [hl] at hi
    rw [staL_at hi, stoL_at hi, selF_len, selF_len]
    exact ⟨rfl, Nat.le_trans (cntF_le _ _ _) hn⟩
  · rw [hl] at hi
    rw [stoL_at hi, selF_len] at hkl
    obtain ⟨j, h1, h2, h3, h4⟩ := selF_at hkl
    rw [staL_at hi, stoL_at hi, h4, h4]
    have hso := hst i hi
    obtain ⟨bl, busy, hp⟩ := hso.p
    have hnum : (sysOf l rs).num j = k := by unfold Sys.num; rw [h2, h3]
    have hlo := hk.lo j h1
    have hrel := hs.rel j h1
    have hrt := resp_top hc hs hk hp h1 h2
    have hSj := ok.S _ (ok.fr j h1)
    have hst2 : (sysOf l rs).st en j = en j - (sysOf l rs).S ((sysOf l rs).fr j) := rfl
    rw [hnum] at hlo hrt
    rw [hso.e]
    rw [h2] at hlo
    have hE : (sysOf l rs).E (ks.getD i 0).toNat = (l.getD (ks.getD i 0).toNat Fr.o).e := rfl
    rw [hE] at hlo
    exact ⟨hlo, by omega, hrt⟩
  · rw [hl] at hi
    rw [stoL_at hi, selF_len] at hkl
    obtain ⟨j, h1, h2, h3, h4⟩ := selF_at (fr := (sysOf l rs).fr) (f := (ks.getD i 0).toNat) (m := rs.length) (k := k) (by omega)
    obtain ⟨j', h1', h2', h3', h4'⟩ := selF_at hkl
    rw [staL_at hi, stoL_at hi, h4, h4, h4', h4']
    have hjj : j < j' := by
      rcases Nat.lt_or_ge j j' with h5 | h5
      · exact h5
      · have := cntF_mono (sysOf l rs).fr (ks.getD i 0).toNat h5
        omega
    have hff : (sysOf l rs).fr j = (sysOf l rs).fr j' := by rw [h2, h2']
    have h6 := hk.mono j j' hjj h1' hff
    have h7 := hs.fifo ok hk hjj h1' hff
    have e1 : (sysOf l rs).st en j = en j - (sysOf l rs).S ((sysOf l rs).fr j) := rfl
    have e2 : (sysOf l rs).st en j' = en j' - (sysOf l rs).S ((sysOf l rs).fr j') := rfl
    rw [hff] at e1
    exact ⟨h6, by omega⟩
theorem sts_ok {l : List Fr} {ks : List Int} {ss : List Stp} (hc : chkF l = 0) (hk1 : 1 ≤ ks.length) (hk10 : ks.length ≤ 10) (hin : ∀ i, i < ks.length → 0 ≤ ks.getD i 0 ∧ ks.getD i 0 < l.length) (hl : ss.length = ks.length) (hst : ∀ i, i < ks.length → StepOk l (ks.getD i 0).toNat (ss.getD i Stp.o)) : StsOk ss := by
  have ok := frs_ok hc
  refine ⟨by omega, by omega, fun i hi => ?_⟩
  rw [hl] at hi
  have h1 := hst i hi
  have h2 := hin i hi
  have h3 := ok.e (ks.getD i 0).toNat (by omega)
  exact ⟨by rw [h1.e]; exact h3.1, by rw [h1.e]; exact h3.2, h1.r0, h1.r1, h1.g, h1.t⟩
/-- No value is older than the bound, as long as no step lacks a run. -/
theorem age_top {ss : List Stp} {a b : List (List Int)} (hs : StsOk ss) (ok : PyOk ss a b) (hen : ∀ i k, i + 1 < ss.length → k < (a.getD (i + 1) []).length → (a.getD (i + 1) []).getD k 0 < (ss.getD i Stp.o).e * (a.getD i []).length + (ss.getD i Stp.o).r) {k : Nat} (hk : k < rwN b (ss.length - 1)) :
    ageN (rwF a) (rwF b) (rwN b) (ss.length - 1) k ≤ reaS ss ss.length - (ss.getD (ss.length - 1) Stp.o).e + 1 := by
  have hl := hs.l1
  have h1 := age_bound (a := rwF a) (b := rwF b) (n := rwN b) (E := fun i => (ss.getD i Stp.o).e) (R := fun i => (ss.getD i Stp.o).r) (m := ss.length - 1) (fun i hi => (hs.ok i (by omega)).e0) (fun i hi => (hs.ok i (by omega)).r0)
    (fun i k hi hk => (ok.run i k (by omega) hk).1) (fun i k hi hk => (ok.run i k (by omega) hk).2.2) (fun i k hi hk => by
      have h2 := hen i k (by omega) (by rw [(ok.row (i + 1) (by omega)).1]; exact hk)
      rw [(ok.row i (by omega)).1] at h2
      exact h2) hk
  have h3 : reaS ss ss.length = reaS ss (ss.length - 1) + ((ss.getD (ss.length - 1) Stp.o).r + (ss.getD (ss.length - 1) Stp.o).e - 1) := by
    have e : ss.length = (ss.length - 1) + 1 := by omega
    conv => lhs; rw [e]
    rfl
  have h4 : reaS ss (ss.length - 1) = sumI (fun i => (ss.getD i Stp.o).r + (ss.getD i Stp.o).e - 1) (ss.length - 1) := rfl
  rw [h3, h4]
  omega
end Go.Proofs.Ytmgfijadjclmpaa
/- Rows that the law makes: two lists of rows in blocks of their own. -/
namespace Go.Proofs.Ytmgfijadjclmpaa
open Go.RowKit
set_option linter.unusedVariables false
set_option linter.unusedSimpArgs false
theorem ownsRow_sameT {w w' : World} {base e size n : Nat} {v : Value} {xs : List Value} (h : w.ownsRow base e size v n xs) (hs : ∀ b, v.ownBlock = some b → w'.heap[b]? = w.heap[b]?) : w'.ownsRow base e size v n xs := by
  obtain ⟨h1, h2 | ⟨g, cap, cur, rfl, h4, h5, h6⟩⟩ := h
  · exact ⟨h1, .inl h2⟩
  · exact ⟨h1, .inr ⟨g, cap, cur, rfl, h4, (hs g rfl).trans h5, h6⟩⟩
theorem own_typed {w : World} {B e sz n : Nat} {v : Value} {xs : List Value} (h : w.ownsRow B e sz v n xs) {g : Nat} (hg : v.ownBlock = some g) : ∃ C, w.heap[g]? = some (.cells C e (0, 0)) := by
  rcases h.2 with ⟨h1, _⟩ | ⟨g', cap, cur, h1, _, h3, _⟩
  · rw [h1] at hg
    cases hg
  · rw [h1] at hg
    injection hg with hg
    subst hg
    exact ⟨cur, h3⟩
theorem own_apart {w : World} {B e sz n B' e' sz' n' : Nat} {v v' : Value} {xs xs' : List Value} (h : w.ownsRow B e sz v n xs) (h' : w.ownsRow B' e' sz' v' n' xs') (hne : e ≠ e') {g : Nat} (hg : v.ownBlock = some g) : v'.ownBlock ≠ some g := fun hg' => by
  obtain ⟨C, h1⟩ := own_typed h hg
  obtain ⟨C', h2⟩ := own_typed h' hg'
  rw [h1] at h2
  injection h2 with h2
  injection h2 with _ h2
  exact hne h2
theorem own_stays {w w' : World} {B e sz n : Nat} {v : Value} {xs : List Value} {o : Obj} {row : Option Nat} (h : w.ownsRow B e sz v n xs) (hg : (w.alloc o).grownBy w' row) (hne : ∀ g, v.ownBlock = some g → row ≠ some g) : w'.ownsRow B e sz v n xs :=
  ownsRow_sameT h fun b hb => (hg.block b (by have := (h.lt b hb).2; simp; omega) (fun q => hne b hb q.symm)).trans (Below.heap_alloc w o b (h.lt b hb).2)
/-- Two lists in rows of their own, in blocks apart. -/
structure Tw2 (B e : Nat) (w : World) (av bv : Value) (n m : Nat) (xs ys : List Value) : Prop where
  oa : w.ownsRow B e 1 av n xs
  ob : w.ownsRow B e 1 bv m ys
  ne : ∀ g, av.ownBlock = some g → bv.ownBlock ≠ some g
theorem Tw2.nil (B e : Nat) (w : World) : Tw2 B e w (.slice none 0 0) (.slice none 0 0) 0 0 [] [] := ⟨World.ownsRow_nil _ _ _ _, World.ownsRow_nil _ _ _ _, fun g h => by cases h⟩
theorem Tw2.below {B e : Nat} {w w' : World} {av bv : Value} {n m : Nat} {xs ys : List Value} (h : Tw2 B e w av bv n m xs ys) (hb : Below w.heap.size w w') : Tw2 B e w' av bv n m xs ys := ⟨owns_below h.oa hb, owns_below h.ob hb, h.ne⟩
theorem Tw2.pushA {B e : Nat} {w w' : World} {av bv v1 x : Value} {n m : Nat} {xs ys : List Value} {o : Obj} (h : Tw2 B e w av bv n m xs ys) (hown : w'.ownsRow B e 1 v1 (n + 1) (xs ++ [x])) (hg : (w.alloc o).grownBy w' av.ownBlock) (hat : v1.ownBlock = av.ownBlock ∨ v1.ownBlock = some (w.alloc o).heap.size) :
    Tw2 B e w' v1 bv (n + 1) m (xs ++ [x]) ys := by
  refine ⟨hown, own_stays h.ob hg fun g hb ha => h.ne g ha hb, fun g hv hb => ?_⟩
  rcases hat with h1 | h1
  · exact h.ne g (h1.symm.trans hv) hb
  · rw [h1] at hv
    injection hv with hv
    have := (h.ob.lt g hb).2
    simp at hv
    omega
theorem Tw2.pushB {B e : Nat} {w w' : World} {av bv v1 x : Value} {n m : Nat} {xs ys : List Value} {o : Obj} (h : Tw2 B e w av bv n m xs ys) (hown : w'.ownsRow B e 1 v1 (m + 1) (ys ++ [x])) (hg : (w.alloc o).grownBy w' bv.ownBlock) (hat : v1.ownBlock = bv.ownBlock ∨ v1.ownBlock = some (w.alloc o).heap.size) :
    Tw2 B e w' av v1 n (m + 1) xs (ys ++ [x]) := by
  refine ⟨own_stays h.oa hg fun g ha hb => h.ne g ha hb, hown, fun g ha hv => ?_⟩
  rcases hat with h1 | h1
  · exact h.ne g ha (h1.symm.trans hv)
  · rw [h1] at hv
    injection hv with hv
    have := (h.oa.lt g ha).2
    simp at hv
    omega
theorem low_grown {B : Nat} {w w' : World} {av : Value} {o : Obj} {e sz n : Nat} {xs : List Value} {b0 : Nat} {W : World} (hb : Below b0 W w) (hW : b0 ≤ W.heap.size) (ho : w.ownsRow B e sz av n xs) (hB : b0 ≤ B) (hg : (w.alloc o).grownBy w' av.ownBlock) : Below b0 W w' :=
  Below.grown (Below.allocT hb hW _) hg (by have := hb.size; simp; omega) (fun j hj => by have := (ho.lt j hj).1; omega)
/-- The law's two lists of rows. -/
structure TopH (B : Nat) (w : World) (sv tv : Value) (L M : List (List Int)) (vs us : List Value) : Prop where
  tw : Tw2 B 24 w sv tv L.length M.length vs us
  lv : vs.length = L.length
  lu : us.length = M.length
  rv : ∀ i, i < L.length → w.ownsRow B 3 1 (vs.getD i undef) (L.getD i []).length ((L.getD i []).map (Value.int .i64))
  ru : ∀ i, i < M.length → w.ownsRow B 3 1 (us.getD i undef) (M.getD i []).length ((M.getD i []).map (Value.int .i64))
theorem TopH.nil (B : Nat) (w : World) : TopH B w (.slice none 0 0) (.slice none 0 0) [] [] [] [] := ⟨Tw2.nil _ _ _, rfl, rfl, fun i hi => by simp at hi, fun i hi => by simp at hi⟩
theorem TopH.below {B : Nat} {w w' : World} {sv tv : Value} {L M : List (List Int)} {vs us : List Value} (h : TopH B w sv tv L M vs us) (hb : Below w.heap.size w w') : TopH B w' sv tv L M vs us :=
  ⟨h.tw.below hb, h.lv, h.lu, fun i hi => owns_below (h.rv i hi) hb, fun i hi => owns_below (h.ru i hi) hb⟩
theorem int_ne : (3 : Nat) ≠ 24 := by decide
theorem push_rows {B : Nat} {w' : World} {L : List (List Int)} {a : List Int} {vs : List Value} {av : Value} (hl : vs.length = L.length) (hr : ∀ i, i < L.length → w'.ownsRow B 3 1 (vs.getD i undef) (L.getD i []).length ((L.getD i []).map (Value.int .i64))) (ha : w'.ownsRow B 3 1 av a.length (a.map (Value.int .i64))) :
    ∀ i, i < (L ++ [a]).length → w'.ownsRow B 3 1 ((vs ++ [av]).getD i undef) ((L ++ [a]).getD i []).length (((L ++ [a]).getD i []).map (Value.int .i64)) := fun i hi => by
  rcases Nat.lt_or_ge i L.length with h1 | h1
  · rw [getD_pushT (by rw [hl]; exact h1), getD_pushT h1]
    exact hr i h1
  · have e : i = L.length := by simp at hi; omega
    rw [getD_lastT (by rw [hl]; exact e), getD_lastT e]
    exact ha
theorem TopH.pushS {B : Nat} {w w' : World} {sv tv v1 av : Value} {L M : List (List Int)} {vs us : List Value} {o : Obj} {a : List Int} (h : TopH B w sv tv L M vs us) (ha : w.ownsRow B 3 1 av a.length (a.map (Value.int .i64))) (hown : w'.ownsRow B 24 1 v1 (L.length + 1) (vs ++ [av])) (hg : (w.alloc o).grownBy w' sv.ownBlock) (hat : v1.ownBlock = sv.ownBlock ∨ v1.ownBlock = some (w.alloc o).heap.size) :
    TopH B w' v1 tv (L ++ [a]) M (vs ++ [av]) us := by
  have hk : ∀ {n : Nat} {v : Value} {xs : List Value}, w.ownsRow B 3 1 v n xs → w'.ownsRow B 3 1 v n xs := fun hr => own_stays hr hg fun g hb => own_apart hr h.tw.oa int_ne hb
  exact ⟨by rw [List.length_append]; exact h.tw.pushA hown hg hat, by simp [h.lv], h.lu, push_rows h.lv (fun i hi => hk (h.rv i hi)) (hk ha), fun i hi => hk (h.ru i hi)⟩
theorem TopH.pushT {B : Nat} {w w' : World} {sv tv v1 av : Value} {L M : List (List Int)} {vs us : List Value} {o : Obj} {a : List Int} (h : TopH B w sv tv L M vs us) (ha : w.ownsRow B 3 1 av a.length (a.map (Value.int .i64))) (hown : w'.ownsRow B 24 1 v1 (M.length + 1) (us ++ [av])) (hg : (w.alloc o).grownBy w' tv.ownBlock) (hat : v1.ownBlock = tv.ownBlock ∨ v1.ownBlock = some (w.alloc o).heap.size) :
    TopH B w' sv v1 L (M ++ [a]) vs (us ++ [av]) := by
  have hk : ∀ {n : Nat} {v : Value} {xs : List Value}, w.ownsRow B 3 1 v n xs → w'.ownsRow B 3 1 v n xs := fun hr => own_stays hr hg fun g hb => own_apart hr h.tw.ob int_ne hb
  exact ⟨by rw [List.length_append]; exact h.tw.pushB hown hg hat, h.lv, by simp [h.lu], fun i hi => hk (h.rv i hi), push_rows h.lu (fun i hi => hk (h.ru i hi)) (hk ha)⟩
theorem rws_of {B : Nat} {w : World} {sv : Value} {L : List (List Int)} {vs : List Value} (hl : vs.length = L.length) (ho : w.ownsRow B 24 1 sv L.length vs) (hr : ∀ i, i < L.length → w.ownsRow B 3 1 (vs.getD i undef) (L.getD i []).length ((L.getD i []).map (Value.int .i64))) : Rws w w.heap.size sv L :=
  ⟨fun i => vs.getD i undef, Sl.of_owns ho fun i j hi hj => by
    obtain rfl : j = 0 := by omega
    rw [Nat.mul_one, Nat.add_zero]
    have : i < vs.length := by omega
    simp [this], fun i hi => ints_of_ownT (hr i hi)⟩
theorem TopH.rwsS {B : Nat} {w : World} {sv tv : Value} {L M : List (List Int)} {vs us : List Value} (h : TopH B w sv tv L M vs us) : Rws w w.heap.size sv L := rws_of h.lv h.tw.oa h.rv
theorem TopH.rwsT {B : Nat} {w : World} {sv tv : Value} {L M : List (List Int)} {vs us : List Value} (h : TopH B w sv tv L M vs us) : Rws w w.heap.size tv M := rws_of h.lu h.tw.ob h.ru
theorem infoRow : (Try.prog.info? 24).map (fun i => (i.zero, i.size, i.bytes)) = some (some (.slice none 0 0), 1, 24) := by kernel_rfl
end Go.Proofs.Ytmgfijadjclmpaa

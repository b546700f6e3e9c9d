/- Part 9 of this claim's texts: walks and plain laws. -/
import Derived.Test.YtmgfijadjclmpaaRows
/- Releases sent on a bus, one by one, by rank: how long one can take at the most. Plain laws. -/
namespace Go.Proofs.Ytmgfijadjclmpaa
set_option linter.unusedVariables false
set_option linter.unusedSimpArgs false
/-- The sum of the first n. -/
def sumI (f : Nat → Int) : Nat → Int
  | 0 => 0
  | n + 1 => sumI f n + f n
theorem sumI_le {f g : Nat → Int} : ∀ {n : Nat}, (∀ i, i < n → f i ≤ g i) → sumI f n ≤ sumI g n
  | 0, _ => Int.le_refl _
  | n + 1, h => Int.add_le_add (sumI_le fun i hi => h i (by omega)) (h n (by omega))
theorem sumI_congr {f g : Nat → Int} : ∀ {n : Nat}, (∀ i, i < n → f i = g i) → sumI f n = sumI g n
  | 0, _ => rfl
  | n + 1, h => by
    show sumI f n + f n = sumI g n + g n
    rw [sumI_congr fun i hi => h i (by omega), h n (by omega)]
theorem sumI_one {f g : Nat → Int} {k : Nat} {d : Int} : ∀ {n : Nat}, k < n → (∀ i, i < n → f i ≤ g i) → f k + d ≤ g k → sumI f n + d ≤ sumI g n
  | 0, hk, _, _ => absurd hk (by omega)
  | n + 1, hk, h, h1 => by
    show sumI f n + f n + d ≤ sumI g n + g n
    rcases Nat.lt_or_ge k n with h2 | h2
    · have h3 := sumI_one (n := n) h2 (fun i hi => h i (by omega)) h1
      have h4 := h n (by omega)
      omega
    · have e : k = n := by omega
      subst e
      have h3 := sumI_le (n := k) fun i hi => h i (by omega)
      omega
theorem sumI_zero : ∀ n : Nat, sumI (fun _ => 0) n = 0
  | 0 => rfl
  | n + 1 => by show sumI (fun _ => 0) n + 0 = 0; rw [sumI_zero n]; rfl
theorem sumI_nonneg {f : Nat → Int} {n : Nat} (h : ∀ i, i < n → 0 ≤ f i) : 0 ≤ sumI f n := by
  have h1 := sumI_le (f := fun _ => 0) (g := f) (n := n) h
  rw [sumI_zero] at h1
  exact h1
theorem sumI_add (f g : Nat → Int) : ∀ n : Nat, sumI (fun i => f i + g i) n = sumI f n + sumI g n
  | 0 => rfl
  | n + 1 => by
    show sumI (fun i => f i + g i) n + (f n + g n) = sumI f n + f n + (sumI g n + g n)
    rw [sumI_add f g n]
    omega
theorem sumI_mul (f : Nat → Int) (c : Int) : ∀ n : Nat, sumI (fun i => f i * c) n = sumI f n * c
  | 0 => by show (0 : Int) = 0 * c; rw [Int.zero_mul]
  | n + 1 => by
    show sumI (fun i => f i * c) n + f n * c = (sumI f n + f n) * c
    rw [sumI_mul f c n, Int.add_mul]
theorem sumI_swap (f : Nat → Nat → Int) (m : Nat) : ∀ n : Nat, sumI (fun i => sumI (f i) m) n = sumI (fun j => sumI (fun i => f i j) n) m
  | 0 => by
    show 0 = sumI (fun j => 0) m
    rw [sumI_zero]
  | n + 1 => by
    show sumI (fun i => sumI (f i) m) n + sumI (f n) m = sumI (fun j => sumI (fun i => f i j) n + f n j) m
    rw [sumI_swap f m n, sumI_add]
theorem sumI_pick {g0 : Nat} {c : Int} : ∀ {m : Nat}, g0 < m → sumI (fun g => if g0 = g then c else 0) m = c
  | 0, h => absurd h (by omega)
  | m + 1, h => by
    show sumI (fun g => if g0 = g then c else 0) m + (if g0 = m then c else 0) = c
    rcases Nat.lt_or_ge g0 m with h1 | h1
    · rw [sumI_pick h1, if_neg (by omega), Int.add_zero]
    · have e : g0 = m := by omega
      rw [if_pos e]
      have h2 : sumI (fun g => if g0 = g then c else 0) m = sumI (fun _ => 0) m := sumI_congr fun i hi => if_neg (by omega)
      rw [h2, sumI_zero, Int.zero_add]
theorem sumI_cut {p : Nat → Prop} [DecidablePred p] {c : Int} {T : Nat} : ∀ {n : Nat}, T ≤ n → sumI (fun i => if p i ∧ i < T then c else 0) n = sumI (fun i => if p i then c else 0) T
  | 0, h => by
    have e : T = 0 := by omega
    subst e
    rfl
  | n + 1, h => by
    rcases Nat.lt_or_ge T (n + 1) with h1 | h1
    · show sumI (fun i => if p i ∧ i < T then c else 0) n + (if p n ∧ n < T then c else 0) = _
      rw [sumI_cut (by omega), if_neg (by omega), Int.add_zero]
    · have e : T = n + 1 := by omega
      subst e
      refine sumI_congr fun i hi => ?_
      by_cases hp : p i
      · rw [if_pos ⟨hp, hi⟩, if_pos hp]
      · rw [if_neg (fun h => hp h.1), if_neg hp]
/-- How many of the first n belong to g. -/
def cntF (fr : Nat → Nat) (g : Nat) : Nat → Nat
  | 0 => 0
  | n + 1 => cntF fr g n + if fr n = g then 1 else 0
theorem cntF_sum (fr : Nat → Nat) (g : Nat) (Q : Nat → Prop) [DecidablePred Q] : ∀ n : Nat, sumI (fun i => if fr i = g ∧ Q (cntF fr g i) then 1 else 0) n = sumI (fun j => if Q j then 1 else 0) (cntF fr g n)
  | 0 => rfl
  | n + 1 => by
    show sumI (fun i => if fr i = g ∧ Q (cntF fr g i) then 1 else 0) n + (if fr n = g ∧ Q (cntF fr g n) then 1 else 0) = sumI (fun j => if Q j then 1 else 0) (cntF fr g n + if fr n = g then 1 else 0)
    rw [cntF_sum fr g Q n]
    by_cases h : fr n = g
    · rw [if_pos h]
      show _ = sumI (fun j => if Q j then 1 else 0) (cntF fr g n) + (if Q (cntF fr g n) then 1 else 0)
      by_cases h2 : Q (cntF fr g n)
      · rw [if_pos ⟨h, h2⟩, if_pos h2]
      · rw [if_neg (fun e => h2 e.2), if_neg h2]
    · rw [if_neg h, if_neg (fun e => h e.1), Int.add_zero]
      rfl
theorem near_sum (Q : Nat → Prop) [DecidablePred Q] (D : Int) (h : ∀ j k : Nat, Q j → Q k → (k : Int) - j ≤ D) (hD : 0 ≤ D + 1) (n : Nat) : sumI (fun j => if Q j then 1 else 0) n ≤ D + 1 := by
  have key : ∀ n : Nat, sumI (fun j => if Q j then 1 else 0) n = 0 ∨ ∃ j k : Nat, j ≤ k ∧ k < n ∧ Q j ∧ Q k ∧ sumI (fun j => if Q j then 1 else 0) n ≤ (k : Int) - j + 1 := by
    intro n
    induction n with
    | zero => exact .inl rfl
    | succ n ih =>
      show sumI (fun j => if Q j then 1 else 0) n + (if Q n then 1 else 0) = 0 ∨ ∃ j k : Nat, j ≤ k ∧ k < n + 1 ∧ Q j ∧ Q k ∧ sumI (fun j => if Q j then 1 else 0) n + (if Q n then 1 else 0) ≤ (k : Int) - j + 1
      by_cases hq : Q n
      · rw [if_pos hq]
        rcases ih with h1 | ⟨j, k, h1, h2, h3, h4, h5⟩
        · exact .inr ⟨n, n, Nat.le_refl _, by omega, hq, hq, by omega⟩
        · exact .inr ⟨j, n, by omega, by omega, h3, hq, by omega⟩
      · rw [if_neg hq]
        rcases ih with h1 | ⟨j, k, h1, h2, h3, h4, h5⟩
        · exact .inl (by omega)
        · exact .inr ⟨j, k, h1, by omega, h3, h4, by omega⟩
  rcases key n with h1 | ⟨j, k, _, _, h3, h4, h5⟩
  · omega
  · have := h j k h3 h4
    omega
/-- x, but not below 0 nor above c. -/
def clmI (x c : Int) : Int := if x ≤ 0 then 0 else if c ≤ x then c else x
theorem clmI_nonneg {x c : Int} (hc : 0 ≤ c) : 0 ≤ clmI x c := by
  unfold clmI
  split
  · omega
  · split <;> omega
theorem clmI_le {x c : Int} (hc : 0 ≤ c) : clmI x c ≤ c := by
  unfold clmI
  split
  · omega
  · split <;> omega
theorem clmI_mono {x y c : Int} (hc : 0 ≤ c) (h : x ≤ y) : clmI x c ≤ clmI y c := by
  unfold clmI
  split <;> split <;> (try split) <;> (try split) <;> omega
theorem clmI_step {x c : Int} (h0 : 0 ≤ x) (h : x < c) : clmI x c + 1 ≤ clmI (x + 1) c := by
  unfold clmI
  split <;> split <;> (try split) <;> (try split) <;> omega
theorem clmI_zero {x c : Int} (h : x ≤ 0) : clmI x c = 0 := if_pos h
theorem clmI_less {x c : Int} (hc : 1 ≤ c) (h : x < c) : clmI x c + 1 ≤ c := by
  unfold clmI
  split <;> (try split) <;> omega
/-- Frames and releases. -/
structure Sys where
  m : Nat
  S : Nat → Int
  E : Nat → Int
  J : Nat → Int
  R : Nat → Int
  n : Nat
  fr : Nat → Nat
  tm : Nat → Int
def Sys.st (y : Sys) (en : Nat → Int) (i : Nat) : Int := en i - y.S (y.fr i)
def Sys.bef (y : Sys) (i j : Nat) : Prop := y.R (y.fr i) < y.R (y.fr j) ∨ y.fr i = y.fr j ∧ (y.tm i < y.tm j ∨ y.tm i = y.tm j ∧ i < j)
def Sys.num (y : Sys) (i : Nat) : Nat := cntF y.fr (y.fr i) i
/-- Valid frames. -/
structure Sys.Ok (y : Sys) : Prop where
  S : ∀ g, g < y.m → 1 ≤ y.S g
  E : ∀ g, g < y.m → 1 ≤ y.E g
  J : ∀ g, g < y.m → 0 ≤ y.J g
  R : ∀ g k, g < y.m → k < y.m → y.R g = y.R k → g = k
  fr : ∀ i, i < y.n → y.fr i < y.m
  tm : ∀ i, i < y.n → 0 ≤ y.tm i
/-- What has been sent when. -/
structure Sched (y : Sys) (en : Nat → Int) : Prop where
  rel : ∀ i, i < y.n → y.tm i ≤ y.st en i
  one : ∀ i j, i < y.n → j < y.n → i ≠ j → en i ≤ y.st en j ∨ en j ≤ y.st en i
  pri : ∀ i j, i < y.n → j < y.n → i ≠ j → y.tm j ≤ y.st en i → y.st en i < y.st en j → y.bef i j
  wrk : ∀ j t, j < y.n → y.tm j ≤ t → t < y.st en j → ∃ i, i < y.n ∧ y.st en i ≤ t ∧ t < en i
/-- The same on the way: what has no end yet has -1. -/
structure PSched (y : Sys) (en : Nat → Int) (now : Int) : Prop where
  rel : ∀ i, i < y.n → 0 ≤ en i → y.tm i ≤ y.st en i ∧ en i ≤ now
  one : ∀ i j, i < y.n → j < y.n → i ≠ j → 0 ≤ en i → 0 ≤ en j → en i ≤ y.st en j ∨ en j ≤ y.st en i
  pri : ∀ i j, i < y.n → j < y.n → i ≠ j → 0 ≤ en i → y.tm j ≤ y.st en i → (0 ≤ en j → y.st en i < y.st en j) → y.bef i j
  wrk : ∀ j t, j < y.n → y.tm j ≤ t → t < now → (0 ≤ en j → t < y.st en j) → ∃ i, i < y.n ∧ 0 ≤ en i ∧ y.st en i ≤ t ∧ t < en i
theorem PSched.begin {y : Sys} (ok : y.Ok) {en : Nat → Int} (h : ∀ i, i < y.n → en i = -1) : PSched y en 0 :=
  ⟨fun i hi h0 => absurd h0 (by rw [h i hi]; omega), fun i j hi _ _ h0 => absurd h0 (by rw [h i hi]; omega), fun i j hi _ _ h0 => absurd h0 (by rw [h i hi]; omega), fun j t hj h1 h2 => absurd (ok.tm j hj) (by omega)⟩
theorem PSched.done {y : Sys} {en : Nat → Int} {now : Int} (ok : y.Ok) (h : PSched y en now) (ha : ∀ i, i < y.n → 0 ≤ en i) : Sched y en where
  rel i hi := (h.rel i hi (ha i hi)).1
  one i j hi hj hne := h.one i j hi hj hne (ha i hi) (ha j hj)
  pri i j hi hj hne h1 h2 := h.pri i j hi hj hne (ha i hi) h1 fun _ => h2
  wrk j t hj h1 h2 := by
    have h3 := h.rel j hj (ha j hj)
    have h4 := ok.S _ (ok.fr j hj)
    have h5 : y.st en j = en j - y.S (y.fr j) := rfl
    obtain ⟨i, a, _, b, c⟩ := h.wrk j t hj h1 (by omega) fun _ => h2
    exact ⟨i, a, b, c⟩
theorem PSched.jump {y : Sys} {en : Nat → Int} {now soon : Int} (ok : y.Ok) (h : PSched y en now) (hs : now < soon) (hu : ∀ i, i < y.n → en i < 0 → soon ≤ y.tm i) : PSched y en soon where
  rel i hi h0 := ⟨(h.rel i hi h0).1, by have := (h.rel i hi h0).2; omega⟩
  one := h.one
  pri := h.pri
  wrk j t hj h1 h2 h3 := by
    rcases Int.lt_or_le t now with h4 | h4
    · exact h.wrk j t hj h1 h4 h3
    · exfalso
      by_cases h5 : 0 ≤ en j
      · have h6 := (h.rel j hj h5).2
        have h7 := h3 h5
        have h8 := ok.S _ (ok.fr j hj)
        have h9 : y.st en j = en j - y.S (y.fr j) := rfl
        omega
      · have := hu j hj (by omega)
        omega
theorem PSched.send {y : Sys} {en en' : Nat → Int} {now : Int} {x : Nat} (ok : y.Ok) (h : PSched y en now) (h0 : 0 ≤ now) (hx : x < y.n) (hu : en x < 0) (ht : y.tm x ≤ now) (hsel : ∀ j, j < y.n → j ≠ x → en j < 0 → y.tm j ≤ now → y.bef x j)
    (e1 : en' x = now + y.S (y.fr x)) (e2 : ∀ j, j ≠ x → en' j = en j) : PSched y en' (now + y.S (y.fr x)) := by
  have hS := ok.S _ (ok.fr x hx)
  have sx : y.st en' x = now := by unfold Sys.st; rw [e1]; omega
  have sj : ∀ j, j ≠ x → y.st en' j = y.st en j := fun j hj => by unfold Sys.st; rw [e2 j hj]
  have hj8 : ∀ j, j < y.n → 0 ≤ en j → y.st en j < now := fun j hj hj0 => by
    have h6 := (h.rel j hj hj0).2
    have h8 := ok.S _ (ok.fr j hj)
    have h9 : y.st en j = en j - y.S (y.fr j) := rfl
    omega
  refine ⟨fun i hi hi0 => ?_, fun i j hi hj hne hi0 hj0 => ?_, fun i j hi hj hne hi0 h1 h2 => ?_, fun j t hj h1 h2 h3 => ?_⟩
  · by_cases e : i = x
    · subst e
      rw [sx, e1]
      exact ⟨ht, by omega⟩
    · rw [sj i e, e2 i e]
      rw [e2 i e] at hi0
      have := h.rel i hi hi0
      exact ⟨this.1, by omega⟩
  · by_cases e : i = x
    · subst e
      have ej : j ≠ i := fun e => hne e.symm
      rw [e2 j ej] at hj0
      rw [sx, e2 j ej]
      exact .inr (h.rel j hj hj0).2
    · rw [e2 i e] at hi0
      by_cases e' : j = x
      · subst e'
        rw [sx, e2 i e]
        exact .inl (h.rel i hi hi0).2
      · rw [e2 j e'] at hj0
        rw [e2 i e, e2 j e', sj i e, sj j e']
        exact h.one i j hi hj hne hi0 hj0
  · by_cases e : i = x
    · subst e
      have ej : j ≠ i := fun e => hne e.symm
      rw [sx] at h1 h2
      rw [e2 j ej, sj j ej] at h2
      by_cases hj0 : 0 ≤ en j
      · have h4 := h2 hj0
        have h5 := hj8 j hj hj0
        omega
      · exact hsel j hj ej (by omega) h1
    · rw [e2 i e] at hi0
      rw [sj i e] at h1 h2
      by_cases e' : j = x
      · subst e'
        exact h.pri i j hi hj hne hi0 h1 fun h => absurd h (by omega)
      · rw [e2 j e', sj j e'] at h2
        exact h.pri i j hi hj hne hi0 h1 h2
  · rcases Int.lt_or_le t now with h4 | h4
    · have h5 : 0 ≤ en j → t < y.st en j := fun hj0 => by
        have e : j ≠ x := fun e => by subst e; omega
        rw [e2 j e, sj j e] at h3
        exact h3 hj0
      obtain ⟨i, a, b, c, d⟩ := h.wrk j t hj h1 h4 h5
      have e : i ≠ x := fun e => by subst e; omega
      exact ⟨i, a, by rw [e2 i e]; exact b, by rw [sj i e]; exact c, by rw [e2 i e]; exact d⟩
    · exact ⟨x, hx, by rw [e1]; omega, by rw [sx]; exact h4, by rw [e1]; exact h2⟩
theorem last_quiet (P : Int → Prop) (h0 : P 0) : ∀ A : Nat, ∃ s : Int, 0 ≤ s ∧ s ≤ A ∧ P s ∧ ∀ t : Int, s < t → t ≤ A → ¬ P t
  | 0 => ⟨0, Int.le_refl _, Int.le_refl _, h0, fun t h1 h2 => by omega⟩
  | A + 1 => by
    by_cases h : P ((A : Int) + 1)
    · exact ⟨(A : Int) + 1, by omega, by omega, h, fun t h1 h2 => by omega⟩
    · obtain ⟨s, h1, h2, h3, h4⟩ := last_quiet P h0 A
      refine ⟨s, h1, by omega, h3, fun t h5 h6 => ?_⟩
      by_cases e : t = (A : Int) + 1
      · rw [e]; exact h
      · exact h4 t h5 (by omega)
/-- A quotient rounded up. -/
def upI (n b : Int) : Int := (n + b - 1) / b
/-- Releases keep the patterns of their frames. -/
structure Kept (y : Sys) : Prop where
  lo : ∀ i, i < y.n → (y.num i : Int) * y.E (y.fr i) ≤ y.tm i
  hi : ∀ i, i < y.n → y.tm i ≤ (y.num i : Int) * y.E (y.fr i) + y.J (y.fr i)
  mono : ∀ i j, i < j → j < y.n → y.fr i = y.fr j → y.tm i ≤ y.tm j
theorem win_count {y : Sys} (ok : y.Ok) (k : Kept y) {g : Nat} (hg : g < y.m) (lo hi : Int) (hD : 0 ≤ hi - lo + y.J g + y.E g) : sumI (fun i => if y.fr i = g ∧ lo ≤ y.tm i ∧ y.tm i ≤ hi then 1 else 0) y.n ≤ (hi - lo + y.J g) / y.E g + 1 := by
  have hE := ok.E g hg
  have h1 : sumI (fun i => if y.fr i = g ∧ lo ≤ y.tm i ∧ y.tm i ≤ hi then 1 else 0) y.n ≤ sumI (fun i => if y.fr i = g ∧ ((cntF y.fr g i : Int) * y.E g ≤ hi ∧ lo ≤ (cntF y.fr g i : Int) * y.E g + y.J g) then 1 else 0) y.n := by
    refine sumI_le fun i hi2 => ?_
    by_cases h : y.fr i = g ∧ lo ≤ y.tm i ∧ y.tm i ≤ hi
    · obtain ⟨a, b, c⟩ := h
      have h2 := k.lo i hi2
      have h3 := k.hi i hi2
      unfold Sys.num at h2 h3
      rw [a] at h2 h3
      rw [if_pos ⟨a, b, c⟩, if_pos ⟨a, by omega, by omega⟩]
      exact Int.le_refl _
    · rw [if_neg h]
      split <;> omega
  rw [cntF_sum y.fr g (fun j => (j : Int) * y.E g ≤ hi ∧ lo ≤ (j : Int) * y.E g + y.J g)] at h1
  refine Int.le_trans h1 (near_sum _ _ (fun j l hj hl => ?_) ?_ _)
  · refine (Int.le_ediv_iff_mul_le (by omega)).2 ?_
    rw [Int.sub_mul]
    omega
  · have : (-1 : Int) ≤ (hi - lo + y.J g) / y.E g := (Int.le_ediv_iff_mul_le (by omega)).2 (by omega)
    omega
/-- Sums over releases are sums over frames. -/
theorem by_frame {y : Sys} (ok : y.Ok) (p : Nat → Prop) [DecidablePred p] (q : Nat → Prop) [DecidablePred q] (N : Nat → Int) (hN : ∀ g, g < y.m → q g → sumI (fun i => if y.fr i = g ∧ p i then 1 else 0) y.n ≤ N g) :
    sumI (fun i => if q (y.fr i) ∧ p i then y.S (y.fr i) else 0) y.n ≤ sumI (fun g => if q g then N g * y.S g else 0) y.m := by
  have e1 : sumI (fun i => if q (y.fr i) ∧ p i then y.S (y.fr i) else 0) y.n = sumI (fun i => sumI (fun g => if y.fr i = g then (if q (y.fr i) ∧ p i then y.S (y.fr i) else 0) else 0) y.m) y.n :=
    sumI_congr fun i hi => (sumI_pick (ok.fr i hi)).symm
  rw [e1, sumI_swap]
  refine sumI_le fun g hg => ?_
  by_cases hq : q g
  · rw [if_pos hq]
    have e2 : sumI (fun i => if y.fr i = g then (if q (y.fr i) ∧ p i then y.S (y.fr i) else 0) else 0) y.n = sumI (fun i => (if y.fr i = g ∧ p i then 1 else 0) * y.S g) y.n := by
      refine sumI_congr fun i hi => ?_
      by_cases h1 : y.fr i = g
      · rw [if_pos h1]
        by_cases h2 : p i
        · rw [if_pos ⟨by rw [h1]; exact hq, h2⟩, if_pos ⟨h1, h2⟩, h1, Int.one_mul]
        · rw [if_neg (fun h => h2 h.2), if_neg (fun h => h2 h.2), Int.zero_mul]
      · rw [if_neg h1, if_neg (fun h => h1 h.1), Int.zero_mul]
    rw [e2, sumI_mul]
    exact Int.mul_le_mul_of_nonneg_right (hN g hg hq) (by have := ok.S g hg; omega)
  · rw [if_neg hq]
    have e2 : sumI (fun i => if y.fr i = g then (if q (y.fr i) ∧ p i then y.S (y.fr i) else 0) else 0) y.n = sumI (fun _ => 0) y.n := by
      refine sumI_congr fun i hi => ?_
      by_cases h1 : y.fr i = g
      · rw [if_pos h1, if_neg (fun h => hq (by rw [← h1]; exact h.1))]
      · rw [if_neg h1]
    rw [e2, sumI_zero]
    exact Int.le_refl _
end Go.Proofs.Ytmgfijadjclmpaa

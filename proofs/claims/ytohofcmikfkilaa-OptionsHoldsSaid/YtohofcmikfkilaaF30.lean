/- The value of a formula as the elder program has it: walk. -/
import Derived.Test.YtohofcmikfkilaaRows
import Derived.Test.YtohofcmikfkilaaF26
namespace Go.Proofs.Ytohofcmikfkilaa
open Go.RowKit
set_option linter.unusedVariables false
set_option linter.unusedSimpArgs false
theorem ret_ev {a b : Bool} {x y : Nat} (h1 : a = b) (h2 : x = y) : Ending.returned (.tuple #[.bool a, .int .i64 x]) = .returned (.tuple #[.bool b, .int .i64 y]) := by rw [h1, h2]
/-- What eval tells of the term at place p. -/
def EvR (N : Nat) (v : Nat → Bool) (f : List Int) (p c : Nat) (x : Bool) (q : Nat) : Prop :=
  p < q ∧ q ≤ f.length ∧ vld N c (f.drop q) = true ∧ evS v (f.drop p) = x :: evS v (f.drop q)
theorem vld_ne {N c p : Nat} {f : List Int} (h : vld N (c + 1) (f.drop p) = true) : p < f.length := by
  rcases Nat.lt_or_ge p f.length with h1 | h1
  · exact h1
  · rw [List.drop_eq_nil_of_le h1] at h
    simp [vld] at h
theorem EvR.leaf {N c p : Nat} {v : Nat → Bool} {f : List Int} {o : Int} {x : Bool} (hd : f.drop p = o :: f.drop (p + 1)) (h : vld N (c + 1) (f.drop p) = true) (ha : arO o = 0) (hs : ∀ S, stp v o S = x :: S) : EvR N v f p c x (p + 1) := by
  have hp := vld_ne h
  rw [hd] at h
  simp only [vld, Bool.and_eq_true, ha, Nat.add_zero] at h
  refine ⟨by omega, by omega, h.2, ?_⟩
  rw [hd, evS_cons, hs]
theorem EvR.one {N c p q : Nat} {v : Nat → Bool} {f : List Int} {x : Bool} (hd : f.drop p = -3 :: f.drop (p + 1)) (h : EvR N v f (p + 1) c x q) : EvR N v f p c (!x) q := by
  obtain ⟨h1, h2, h3, h4⟩ := h
  refine ⟨by omega, h2, h3, ?_⟩
  rw [hd, evS_cons, h4]
  rfl
theorem EvR.two {N c p q r : Nat} {v : Nat → Bool} {f : List Int} {x y z : Bool} {o : Int} (hd : f.drop p = o :: f.drop (p + 1)) (h : EvR N v f (p + 1) (c + 1) x q) (k : EvR N v f q c y r) (hs : ∀ S, stp v o (x :: y :: S) = z :: S) : EvR N v f p c z r := by
  obtain ⟨h1, h2, h3, h4⟩ := h
  obtain ⟨k1, k2, k3, k4⟩ := k
  refine ⟨by omega, k2, k3, ?_⟩
  rw [hd, evS_cons, h4, k4, hs]
theorem vld_next {N c p : Nat} {f : List Int} {o : Int} (hd : f.drop p = o :: f.drop (p + 1)) (h : vld N (c + 1) (f.drop p) = true) : vld N (c + arO o) (f.drop (p + 1)) = true ∧ -6 ≤ o ∧ o < N := by
  rw [hd] at h
  simp only [vld, Bool.and_eq_true, decide_eq_true_eq] at h
  exact ⟨h.2, h.1.1, h.1.2⟩
def EvP (N : Nat) (v : Nat → Bool) (f : List Int) (p c : Nat) (w : World) (e : Ending) (W : World) : Prop := ∃ (x : Bool) (q : Nat), e = .returned (.tuple #[.bool x, .int .i64 (q : Nat)]) ∧ EvR N v f p c x q ∧ w = W
set_option maxRecDepth 100000 in
set_option maxHeartbeats 4000000 in
theorem eval_any (f : List Int) (N : Nat) (vs : List Bool) (fv vv : Value) (B : Nat) (w : World) (hm : f.length ≤ 1000) (hf : Ints w B fv f) (hv : Bols w B vv vs) (hN : vs.length = N) :
    ∀ (n p c : Nat), f.length - p ≤ n → vld N (c + 1) (f.drop p) = true → Calls Try.prog 99 #[fv, .int .i64 p, vv] w (EvP N (vf vs) f p c w) := by
  obtain ⟨A, b, off, cap, rfl, hnc, hA, hc⟩ := hf
  obtain ⟨Av, bv, offv, capv, rfl, hncv, hAv, hcv⟩ := hv
  have HC := hide hc
  have HA := hide hA
  have HCV := hide hcv
  have HAV := hide hAv
  have HN := hide hN
  clear hc hA hcv hAv hN
  intro n
  induction n with
  | zero =>
    intro p c h1 h2
    have := vld_ne h2
    omega
  | succ n ih =>
    intro p c hn hvl
    have hp := vld_ne hvl
    obtain ⟨rfl, hb⟩ : A = some ⟨b, off, none⟩ ∧ b < B := by
      rcases HA.out with h | h
      · exact h
      · omega
    obtain ⟨o, ho⟩ : ∃ o, f.getD p 0 = o := ⟨_, rfl⟩
    have c0 : w.cell? ⟨b, off + p, none⟩ = some (.int .i64 o) := by
      have h1 := HC.out p 0 hp (by omega)
      rw [Nat.mul_one, Nat.add_zero] at h1
      rw [← ho]; exact h1
    have hd : f.drop p = o :: f.drop (p + 1) := by rw [drop_getD hp, ho]
    obtain ⟨hnx, hlo, hhi⟩ := vld_next hd hvl
    have i0 : (0 : Int) ≤ (p : Int) := by omega
    have i1 : (p : Int) < (f.length : Int) := by omega
    have HD := hide hd
    have HVL := hide hvl
    have HNX := hide hnx
    have IH := hide ih
    clear hd hvl hnx ih ho
    by_cases h0 : 0 ≤ o
    · obtain ⟨t, rfl⟩ := Int.eq_ofNat_of_zero_le h0
      have ht : t < vs.length := by have := HN.out; omega
      obtain ⟨rfl, hbv⟩ : Av = some ⟨bv, offv, none⟩ ∧ bv < B := by
        rcases HAV.out with h | h
        · exact h
        · omega
      obtain ⟨x, hx⟩ : ∃ x, vs.getD t false = x := ⟨_, rfl⟩
      have c1 : w.cell? ⟨bv, offv + t, none⟩ = some (.bool x) := by
        have h1 := HCV.out t 0 ht (by omega)
        rw [Nat.mul_one, Nat.add_zero] at h1
        rw [← hx]; exact h1
      have d0 : decide ((0 : Int) ≤ (t : Int)) = true := by simp
      have j1 : (t : Int) < (vs.length : Int) := by omega
      have HR : Hid (EvR N (vf vs) f p c x (p + 1)) := EvR.leaf HD.out HVL.out (by unfold arO; (repeat' split) <;> omega) (fun S => by
        unfold stp
        rw [if_neg (by omega), if_neg (by omega), if_neg (by omega), if_neg (by omega), if_neg (by omega), if_neg (by omega), Int.toNat_natCast, ← hx]; rfl)
      clear hx
      go_enter Try.func99, Try.ntmps99
      go_wp2_with fail
      go_ret2
      exact ⟨x, p + 1, rfl, HR.out, rfl⟩
    have d0 : decide (0 ≤ o) = false := by simp; omega
    by_cases h1 : o = -1
    · subst h1
      have HR : Hid (EvR N (vf vs) f p c true (p + 1)) := EvR.leaf HD.out HVL.out rfl (fun S => rfl)
      go_enter Try.func99, Try.ntmps99
      go_wp2_with fail
      go_ret2
      exact ⟨true, p + 1, rfl, HR.out, rfl⟩
    by_cases h2 : o = -2
    · subst h2
      have HR : Hid (EvR N (vf vs) f p c false (p + 1)) := EvR.leaf HD.out HVL.out rfl (fun S => rfl)
      go_enter Try.func99, Try.ntmps99
      go_wp2_with fail
      go_ret2
      exact ⟨false, p + 1, rfl, HR.out, rfl⟩
    by_cases h3 : o = -3
    · subst h3
      have hih := IH.out (p + 1) c (by omega) HNX.out
      have HIH := hide hih
      clear hih
      go_enter Try.func99, Try.ntmps99
      go_wp2_with (go_at_call 99; refine HIH.out.mono ?_; rintro e w1 ⟨x, q, rfl, hr, rfl⟩; have HR := hide hr; clear hr)
      go_ret2
      exact ⟨!x, q, rfl, EvR.one HD.out HR.out, rfl⟩
    have ha : arO o = 2 := by unfold arO; (repeat' split) <;> omega
    have hih := IH.out (p + 1) (c + 1) (by omega) (by have := HNX.out; rw [ha] at this; exact this)
    have HIH := hide hih
    have e1 : (o == -1) = false := by simpa using h1
    have e2 : (o == -2) = false := by simpa using h2
    have e3 : (o == -3) = false := by simpa using h3
    clear hih ha
    go_enter Try.func99, Try.ntmps99
    go_upto_region 9 with (go_at_call 99; refine HIH.out.mono ?_; rintro e w1 ⟨x, q, rfl, hr, rfl⟩; have HR := hide hr; clear hr)
    have hih := IH.out q c (by have := HR.out.1; omega) HR.out.2.2.1
    have HIH2 := hide hih
    clear hih
    go_upto_region 10 with (go_at_call 99; refine HIH2.out.mono ?_; rintro e w1 ⟨y, r, rfl, hr2, rfl⟩; have HR2 := hide hr2; clear hr2)
    rcases (by omega : o = -4 ∨ o = -5 ∨ o = -6) with rfl | rfl | rfl
    · have HT : Hid (EvR N (vf vs) f p c (x && y) r) := EvR.two HD.out HR.out HR2.out (fun S => rfl)
      cases x
      · go_wp2_with fail
        go_ret2
        exact ⟨_, r, rfl, HT.out, rfl⟩
      · go_wp2_with fail
        go_ret2
        exact ⟨_, r, rfl, HT.out, rfl⟩
    · have HT : Hid (EvR N (vf vs) f p c (x || y) r) := EvR.two HD.out HR.out HR2.out (fun S => rfl)
      cases x
      · go_wp2_with fail
        go_ret2
        exact ⟨_, r, rfl, HT.out, rfl⟩
      · go_wp2_with fail
        go_ret2
        exact ⟨_, r, rfl, HT.out, rfl⟩
    · have HT : Hid (EvR N (vf vs) f p c (x == y) r) := EvR.two HD.out HR.out HR2.out (fun S => rfl)
      go_wp2_with fail
      go_ret2
      exact ⟨_, r, rfl, HT.out, rfl⟩
theorem evF1_of {N q c : Nat} {v : Nat → Bool} {f : List Int} {x : Bool} (h : EvR N v f 0 c x q) : x = evF1 v f := by
  have h4 := h.2.2.2
  rw [List.drop_zero] at h4
  unfold evF1
  rw [h4]; rfl
end Go.Proofs.Ytohofcmikfkilaa

/- A fuse that guards a wire: the plain law. -/
import Derived.Test.YtejjjijaojkohaaRows
import Derived.Test.YtejjjijaojkohaaW15
namespace Go.Proofs.Ytejjjijaojkohaa
open Go.RowKit
set_option linter.unusedVariables false
set_option linter.unusedSectionVars false

theorem mxU_ex (f : Int → Int → Int) (cs : List Cu) (r limit : Int) : ∀ t, limit < mxU f cs r t → ∃ s, s ≤ t ∧ limit < stU f cs r s
  | 0, h => ⟨0, Nat.le_refl _, h⟩
  | t + 1, h => by
    rw [mxU_succ] at h
    rcases Int.lt_or_le limit (stU f cs r (t + 1)) with h1 | h1
    · exact ⟨t + 1, Nat.le_refl _, h1⟩
    · obtain ⟨s, h2, h3⟩ := mxU_ex f cs r limit t (by omega)
      exact ⟨s, by omega, h3⟩
theorem pk_over {f : Int → Int → Int} {cs : List Cu} (hf : ∀ a b x, a ≤ b → f a x ≤ f b x) {limit r0 : Int} : ∀ (n : Nat) (r : Int), limit - r + 1 < n → r ≤ cySt f cs r → (∃ k, r = stU f cs r0 (k * secsN cs)) → pk f cs limit n r ≤ limit ∨ ∃ s, limit < stU f cs r0 s
  | 0, r, h, _, ⟨k, hk⟩ => .inr ⟨k * secsN cs, by rw [← hk]; omega⟩
  | n + 1, r, h, hr, ⟨k, hk⟩ => by
    simp only [pk]
    by_cases h1 : limit < cyMx f cs r
    · right
      obtain ⟨s, _, h3⟩ := mxU_ex f cs r limit _ h1
      exact ⟨k * secsN cs + s, by rw [stU_add, ← hk]; exact h3⟩
    · rw [if_neg h1]
      by_cases h2 : cySt f cs r = r
      · rw [if_pos h2]; left; omega
      · rw [if_neg h2]
        exact pk_over hf n (cySt f cs r) (by omega) (stU_mono hf hr _) ⟨k + 1, by rw [Nat.succ_mul, stU_add, ← hk]; rfl⟩
theorem peak_within {g : Ga} (hg : g.Ok) {cs : List Cu} (hok : cycOk cs = true) {limit : Int} (h0 : 0 ≤ limit) (h : ∀ s, stU (warmI g) cs 0 s ≤ limit) : peakI g cs limit ≤ limit := by
  rcases pk_over (warmI_mono g hg.cool0 hg.cool1) (cs := cs) (limit := limit) (r0 := 0) (limit.toNat + 2) 0 (by omega) (cySt_nonneg hg hok (Int.le_refl _)) ⟨0, by rw [Nat.zero_mul]; rfl⟩ with h1 | ⟨s, h1⟩
  · exact h1
  · have := h s; omega

/-- One current for one second. -/
def cs1 (a : Int) : List Cu := [⟨a, 1⟩]
theorem cs1_ok {a : Int} (h0 : 0 ≤ a) (h1 : a ≤ 500) : cycOk (cs1 a) = true := by
  simp [cs1, cycOk, Cu.ok, fromB, h0, h1]
theorem cs1_amp (a : Int) (s : Nat) : ampAt (cs1 a) s = a := by
  have h1 : secsN (cs1 a) = 1 := rfl
  unfold ampAt
  rw [h1, Nat.mod_one]
  rfl
/-- The rise of a wire under one current behind some seconds. -/
def rsC (g : Ga) (a : Int) (s : Nat) : Int := stU (warmI g) (cs1 a) 0 s
theorem rsC_zero (g : Ga) (a : Int) : rsC g a 0 = 0 := rfl
theorem rsC_succ (g : Ga) (a : Int) (s : Nat) : rsC g a (s + 1) = warmI g (rsC g a s) a := by
  unfold rsC; rw [stU_succ, cs1_amp]
section
variable {g : Ga} (hg : g.Ok) {a : Int} (h0 : 0 ≤ a) (h1 : a ≤ 500)
include hg h0 h1
theorem rsC_nonneg (s : Nat) : 0 ≤ rsC g a s := (st_range hg (cs1_ok h0 h1) (Int.le_refl 0) s).1
theorem rsC_up : ∀ s, rsC g a s ≤ rsC g a (s + 1)
  | 0 => by rw [rsC_zero]; exact rsC_nonneg hg h0 h1 _
  | s + 1 => by rw [rsC_succ, rsC_succ]; exact warmI_mono g hg.cool0 hg.cool1 _ _ _ (rsC_up s)
theorem rsC_le {s t : Nat} (h : s ≤ t) : rsC g a s ≤ rsC g a t := by
  induction t with
  | zero => have : s = 0 := by omega
            subst this; exact Int.le_refl _
  | succ t ih =>
    rcases Nat.lt_or_ge t s with h2 | h2
    · have : s = t + 1 := by omega
      subst this; exact Int.le_refl _
    · exact Int.le_trans (ih h2) (rsC_up hg h0 h1 t)
theorem rsC_stays {s : Nat} (h : rsC g a (s + 1) = rsC g a s) : ∀ t, rsC g a (s + t) = rsC g a s
  | 0 => rfl
  | t + 1 => by rw [← Nat.add_assoc, rsC_succ, rsC_stays h t, ← rsC_succ, h]
theorem rsC_top {s : Nat} (h : rsC g a (s + 1) = rsC g a s) (t : Nat) : rsC g a t ≤ rsC g a s := by
  rcases Nat.lt_or_ge s t with h2 | h2
  · obtain ⟨u, rfl⟩ : ∃ u, t = s + u := ⟨t - s, by omega⟩
    rw [rsC_stays hg h0 h1 h u]; exact Int.le_refl _
  · exact rsC_le hg h0 h1 h2
end

/-- Until the fuse opens the wire is not too warm. -/
def GuardP (f : Fu) (g : Ga) (amb a : Int) : Prop := ∀ s : Nat, blowDen f a = 0 ∨ s * blowDen f a < blowNum f a → rsC g a s + amb ≤ g.limit
open Classical in
noncomputable def guardB (f : Fu) (g : Ga) (amb a : Int) : Bool := if GuardP f g amb a then true else false
theorem guard_yes {f : Fu} {g : Ga} {amb a : Int} (h : GuardP f g amb a) : guardB f g amb a = true := by unfold guardB; rw [if_pos h]
theorem guard_no {f : Fu} {g : Ga} {amb a : Int} (h : ¬ GuardP f g amb a) : guardB f g amb a = false := by unfold guardB; rw [if_neg h]
theorem guard_of {f : Fu} {g : Ga} {amb a : Int} (h : guardB f g amb a = true) : GuardP f g amb a := by
  unfold guardB at h
  by_cases hp : GuardP f g amb a
  · exact hp
  · rw [if_neg hp] at h; exact absurd h (by simp)
section
variable {f : Fu} (hf : f.Ok) {g : Ga} (hg : g.Ok) {amb a : Int} (h0 : 0 ≤ a) (h1 : a ≤ 500)
include hf hg h0 h1
theorem guard_cold (h : g.limit - amb < 0) : guardB f g amb a = false := by
  refine guard_no fun hp => ?_
  have hb := blow_range hf h0 h1
  have h2 := hp 0 (by
    rcases Int.lt_or_le f.rating a with h | h
    · right
      have := (hb.2.2.2.2.1 h).2
      have e : ((0 : Nat) : Int) * blowDen f a = 0 := by simp
      omega
    · exact .inl (hb.2.2.2.2.2 h).1)
  rw [rsC_zero] at h2
  omega
theorem guard_never (h : blowDen f a = 0) (hl : 0 ≤ g.limit - amb) : guardB f g amb a = decide (peakI g (cs1 a) (g.limit - amb) ≤ g.limit - amb) := by
  by_cases hp : peakI g (cs1 a) (g.limit - amb) ≤ g.limit - amb
  · rw [decide_eq_true hp]
    refine guard_yes fun s _ => ?_
    have := peak_all hg (cs1_ok h0 h1) hp s
    have h2 : rsC g a s = runSt (warmI g) 0 (ups (cs1 a) s) := rfl
    omega
  · rw [decide_eq_false hp]
    refine guard_no fun hq => hp (peak_within hg (cs1_ok h0 h1) hl fun s => ?_)
    have := hq s (.inl h)
    have h2 : rsC g a s = stU (warmI g) (cs1 a) 0 s := rfl
    omega
theorem guard_warm {s : Nat} (h : blowDen f a = 0 ∨ s * blowDen f a < blowNum f a) (hw : g.limit - amb < rsC g a s) : guardB f g amb a = false :=
  guard_no fun hp => by have := hp s h; omega
theorem guard_stays {s : Nat} (h : rsC g a (s + 1) = rsC g a s) (hw : rsC g a s ≤ g.limit - amb) : guardB f g amb a = true :=
  guard_yes fun t _ => by have := rsC_top hg h0 h1 h t; omega
theorem guard_opens {s : Nat} (hd : blowDen f a ≠ 0) (h : ¬ ((s + 1 : Nat) : Int) * blowDen f a < blowNum f a) (hw : rsC g a s ≤ g.limit - amb) : guardB f g amb a = true := by
  refine guard_yes fun t ht => ?_
  rcases ht with ht | ht
  · exact absurd ht hd
  · have hts : t < s + 1 := by
      rcases Nat.lt_or_ge t (s + 1) with h2 | h2
      · exact h2
      · have hb := blow_range hf h0 h1
        have : ((s + 1 : Nat) : Int) * blowDen f a ≤ (t : Int) * blowDen f a := Int.mul_le_mul_of_nonneg_right (by omega) hb.2.2.1
        omega
    have := rsC_le hg h0 h1 (show t ≤ s by omega)
    omega
end
end Go.Proofs.Ytejjjijaojkohaa

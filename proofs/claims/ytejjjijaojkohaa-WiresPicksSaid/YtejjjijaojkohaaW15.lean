/- Plain laws: a peak that is not above the limit is the greatest of all seconds; a fuse opens earlier under a greater current. -/
import Derived.Test.YtejjjijaojkohaaRows
import Derived.Test.YtejjjijaojkohaaW13
import Derived.Test.YtejjjijaojkohaaW10
namespace Go.Proofs.Ytejjjijaojkohaa
open Go.RowKit
set_option linter.unusedVariables false

theorem ampAt_add (cs : List Cu) (q t : Nat) : ampAt cs (q * secsN cs + t) = ampAt cs t := by
  unfold ampAt; rw [Nat.mul_comm, Nat.mul_add_mod]
theorem stU_add (f : Int → Int → Int) (cs : List Cu) (r : Int) (q : Nat) : ∀ t, stU f cs r (q * secsN cs + t) = stU f cs (stU f cs r (q * secsN cs)) t
  | 0 => rfl
  | t + 1 => by rw [← Nat.add_assoc, stU_succ, stU_succ, stU_add f cs r q t, ampAt_add]
theorem pk_fix {f : Int → Int → Int} {cs : List Cu} (hf : ∀ a b x, a ≤ b → f a x ≤ f b x) {limit : Int} : ∀ (n : Nat) (r : Int), r ≤ cySt f cs r → pk f cs limit n r ≤ limit → ∃ q, r ≤ q ∧ cySt f cs q = q ∧ pk f cs limit n r = cyMx f cs q
  | 0, r, _, h => by simp only [pk] at h; omega
  | n + 1, r, hr, h => by
    simp only [pk] at h ⊢
    by_cases h1 : limit < cyMx f cs r
    · rw [if_pos h1] at h; omega
    · rw [if_neg h1] at h ⊢
      by_cases h2 : cySt f cs r = r
      · rw [if_pos h2]; exact ⟨r, Int.le_refl _, h2, rfl⟩
      · rw [if_neg h2] at h ⊢
        obtain ⟨q, h3, h4, h5⟩ := pk_fix hf n (cySt f cs r) (stU_mono hf hr _) h
        exact ⟨q, by omega, h4, h5⟩
theorem pk_hi (f : Int → Int → Int) (cs : List Cu) (limit : Int) : ∀ (n : Nat) (r : Int), pk f cs limit n r ≤ limit + 1
  | 0, r => Int.le_refl _
  | n + 1, r => by
    simp only [pk]
    split
    · omega
    · split
      · omega
      · exact pk_hi f cs limit n _
theorem pk_lo (f : Int → Int → Int) (cs : List Cu) (limit : Int) (h0 : 0 ≤ limit) : ∀ (n : Nat) (r : Int), 0 ≤ r → r ≤ cySt f cs r → (∀ a, 0 ≤ a → a ≤ cySt f cs a → cySt f cs a ≤ cySt f cs (cySt f cs a)) → 0 ≤ pk f cs limit n r
  | 0, r, _, _, _ => by simp only [pk]; omega
  | n + 1, r, hr, hu, hm => by
    simp only [pk]
    have := le_cyMx f cs r
    split
    · omega
    · split
      · omega
      · exact pk_lo f cs limit h0 n _ (by omega) (hm r hr hu) hm
theorem peak_all {g : Ga} (hg : g.Ok) {cs : List Cu} (hok : cycOk cs = true) {limit : Int} (h : peakI g cs limit ≤ limit) (n : Nat) : runSt (warmI g) 0 (ups cs n) ≤ peakI g cs limit := by
  have hf := warmI_mono g hg.cool0 hg.cool1
  have hN := secsN_pos hok
  obtain ⟨q, h1, h2, h3⟩ := pk_fix hf _ 0 (cySt_nonneg hg hok (Int.le_refl _)) h
  have hit : ∀ k, stU (warmI g) cs 0 (k * secsN cs) ≤ q := by
    intro k
    induction k with
    | zero => rw [Nat.zero_mul]; exact h1
    | succ k ih =>
      rw [Nat.succ_mul, stU_add]
      have := stU_mono hf (cs := cs) ih (secsN cs)
      unfold cySt at h2
      omega
  unfold peakI
  rw [h3]
  have hn : n = n / secsN cs * secsN cs + n % secsN cs := by rw [Nat.mul_comm]; exact (Nat.div_add_mod n _).symm
  have h4 : runSt (warmI g) 0 (ups cs n) = stU (warmI g) cs (stU (warmI g) cs 0 (n / secsN cs * secsN cs)) (n % secsN cs) := by
    rw [← stU_add, ← hn]; rfl
  rw [h4]
  have h5 := stU_mono hf (cs := cs) (hit (n / secsN cs)) (n % secsN cs)
  have h6 := st_le_mxU' (warmI g) cs q (s := n % secsN cs) (t := secsN cs) (Nat.le_of_lt (Nat.mod_lt _ hN))
  unfold cyMx
  omega
theorem peak_range {g : Ga} (hg : g.Ok) {cs : List Cu} (hok : cycOk cs = true) {limit : Int} (h0 : 0 ≤ limit) : 0 ≤ peakI g cs limit ∧ peakI g cs limit ≤ limit + 1 :=
  ⟨pk_lo _ _ _ h0 _ _ (Int.le_refl _) (cySt_nonneg hg hok (Int.le_refl _)) (fun a _ h2 => stU_mono (warmI_mono g hg.cool0 hg.cool1) h2 _), pk_hi _ _ _ _ _⟩

theorem blow_cross {f : Fu} (hf : f.Ok) {a : Int} (h0 : 0 ≤ a) (h : f.rating < a) : blowNum f a * (a * a - f.rating * f.rating) = f.melt * blowDen f a := by
  have hs := sq_lt hf.rating0 h
  unfold blowNum blowDen
  rw [if_neg (by omega), if_neg (by omega)]
  have m0 := hf.melt0
  have d1 : ((Nat.gcd f.melt.toNat (a * a - f.rating * f.rating).toNat : Nat) : Int) ∣ f.melt := by
    have := Int.natCast_dvd_natCast.2 (Nat.gcd_dvd_left f.melt.toNat (a * a - f.rating * f.rating).toNat)
    rwa [Int.toNat_of_nonneg (by omega)] at this
  have d2 : ((Nat.gcd f.melt.toNat (a * a - f.rating * f.rating).toNat : Nat) : Int) ∣ (a * a - f.rating * f.rating) := by
    have := Int.natCast_dvd_natCast.2 (Nat.gcd_dvd_right f.melt.toNat (a * a - f.rating * f.rating).toNat)
    rwa [Int.toNat_of_nonneg (by omega)] at this
  obtain ⟨d, hd⟩ : ∃ d : Int, ((Nat.gcd f.melt.toNat (a * a - f.rating * f.rating).toNat : Nat) : Int) = d := ⟨_, rfl⟩
  rw [hd] at d1 d2 ⊢
  obtain ⟨D, hD⟩ : ∃ D : Int, a * a - f.rating * f.rating = D := ⟨_, rfl⟩
  rw [hD] at d2 ⊢
  have e1 := Int.ediv_mul_cancel d1
  have e2 := Int.ediv_mul_cancel d2
  calc f.melt / d * D = f.melt / d * (D / d * d) := by rw [e2]
    _ = f.melt / d * d * (D / d) := by rw [Int.mul_comm (D / d) d, Int.mul_assoc]
    _ = f.melt * (D / d) := by rw [e1]
/-- A greater current opens a fuse earlier. -/
theorem blow_earlier {f : Fu} (hf : f.Ok) {a b : Int} (h0 : 0 ≤ a) (h : f.rating < a) (hab : a < b) (hb : b ≤ 500) : blowNum f b * blowDen f a < blowNum f a * blowDen f b := by
  have ca := blow_cross hf h0 h
  have cb := blow_cross hf (a := b) (by omega) (by omega)
  have ra := blow_range hf h0 (by omega)
  have rb := blow_range hf (a := b) (by omega) hb
  have sa := sq_lt hf.rating0 h
  have hD : a * a - f.rating * f.rating < b * b - f.rating * f.rating := by
    have h1 : a * a ≤ a * b := Int.mul_le_mul_of_nonneg_left (by omega) h0
    have h2 : a * b < b * b := Int.mul_lt_mul_of_pos_right hab (by omega)
    omega
  have m0 := hf.melt0
  have ga := ra.2.2.2.2.1 h
  have gb := rb.2.2.2.2.1 (by omega)
  obtain ⟨D, hDD⟩ : ∃ D : Int, a * a - f.rating * f.rating = D := ⟨_, rfl⟩
  obtain ⟨E, hEE⟩ : ∃ E : Int, b * b - f.rating * f.rating = E := ⟨_, rfl⟩
  rw [hDD] at ca sa hD
  rw [hEE] at cb hD
  obtain ⟨na, hna⟩ : ∃ x, blowNum f a = x := ⟨_, rfl⟩
  obtain ⟨da, hda⟩ : ∃ x, blowDen f a = x := ⟨_, rfl⟩
  obtain ⟨nb, hnb⟩ : ∃ x, blowNum f b = x := ⟨_, rfl⟩
  obtain ⟨db, hdb⟩ : ∃ x, blowDen f b = x := ⟨_, rfl⟩
  rw [hna, hda] at ca ga
  rw [hnb, hdb] at cb gb
  rw [hna, hda, hnb, hdb]
  have hE0 : 0 < E := by omega
  have k1 : nb * da * (D * E) = f.melt * db * da * D := by
    calc nb * da * (D * E) = nb * E * da * D := by
          rw [Int.mul_comm D E, ← Int.mul_assoc, Int.mul_assoc nb da E, Int.mul_comm da E, ← Int.mul_assoc]
      _ = f.melt * db * da * D := by rw [cb]
  have k2 : na * db * (D * E) = f.melt * da * db * E := by
    calc na * db * (D * E) = na * D * db * E := by
          rw [← Int.mul_assoc, Int.mul_assoc na db D, Int.mul_comm db D, ← Int.mul_assoc]
      _ = f.melt * da * db * E := by rw [ca]
  have k3 : f.melt * db * da = f.melt * da * db := by rw [Int.mul_assoc, Int.mul_comm db da, ← Int.mul_assoc]
  have hp : 0 < f.melt * da * db := Int.mul_pos (Int.mul_pos (by omega) (by omega)) (by omega)
  have k4 : f.melt * da * db * D < f.melt * da * db * E := Int.mul_lt_mul_of_pos_left hD hp
  have k5 : nb * da * (D * E) < na * db * (D * E) := by rw [k1, k2, k3]; exact k4
  exact Int.lt_of_mul_lt_mul_right k5 (Int.le_of_lt (Int.mul_pos sa hE0))
end Go.Proofs.Ytejjjijaojkohaa

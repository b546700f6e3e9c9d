/- Part 2 of this claim's texts: walks and plain laws. -/
import Derived.Test.YtmabfnddedffoaaRows
import Derived.Test.YtmabfnddedffoaaGLW0
import Derived.Test.YtmabfnddedffoaaGLW1
import Derived.WalkLawsBesides
import Derived.WalkSpells
import Derived.Deep.QuietTactic
import Derived.Laws.Cover4
import Derived.StringKeys
import Derived.Deep.RegionHeld3
import Derived.Deep.DrawnRows
/- What can be reached in a loom: the program's list and the reference's marks say the same: plain laws. -/
namespace Go.Proofs.Ytmabfnddedffoaa
set_option linter.unusedVariables false
set_option linter.unusedSimpArgs false
/-- What can be reached from a spot by the runs but one. -/
inductive Rch (rs : List (Nat × Nat)) (w : Int) (s : Nat) : Nat → Prop
  | base : Rch rs w s s
  | fwd {x y k : Nat} : Rch rs w s x → k < rs.length → (k : Int) ≠ w → rs.getD k (0, 0) = (x, y) → Rch rs w s y
  | bwd {x y k : Nat} : Rch rs w s x → k < rs.length → (k : Int) ≠ w → rs.getD k (0, 0) = (y, x) → Rch rs w s y
def stepA (w : Int) (x : Nat) (out : List Nat) (k : Nat) (a b : Nat) : List Nat := if (k : Int) ≠ w ∧ a = x ∧ b ∉ out then out ++ [b] else out
def stepR (w : Int) (x : Nat) (out : List Nat) (k : Nat) (r : Nat × Nat) : List Nat := stepA w x (stepA w x out k r.1 r.2) k r.2 r.1
def scanR (rs : List (Nat × Nat)) (w : Int) (x : Nat) (out : List Nat) : Nat → List Nat
  | 0 => out
  | k + 1 => stepR w x (scanR rs w x out k) k (rs.getD k (0, 0))
def stR (rs : List (Nat × Nat)) (w : Int) (s : Nat) : Nat → List Nat
  | 0 => [s]
  | i + 1 => if i < (stR rs w s i).length then scanR rs w ((stR rs w s i).getD i 0) (stR rs w s i) rs.length else stR rs w s i
theorem stepA_pre (w : Int) (x : Nat) (out : List Nat) (k a b : Nat) : out <+: stepA w x out k a b := by
  unfold stepA
  split
  · exact List.prefix_append _ _
  · exact List.prefix_rfl
theorem stepR_pre (w : Int) (x : Nat) (out : List Nat) (k : Nat) (r : Nat × Nat) : out <+: stepR w x out k r := (stepA_pre ..).trans (stepA_pre ..)
theorem scanR_pre (rs : List (Nat × Nat)) (w : Int) (x : Nat) (out : List Nat) : ∀ k, out <+: scanR rs w x out k
  | 0 => List.prefix_rfl
  | k + 1 => (scanR_pre rs w x out k).trans (stepR_pre ..)
theorem scanR_pre' (rs : List (Nat × Nat)) (w : Int) (x : Nat) (out : List Nat) {j k : Nat} (h : j ≤ k) : scanR rs w x out j <+: scanR rs w x out k := by
  induction k with
  | zero => rw [show j = 0 by omega]; exact List.prefix_rfl
  | succ k ih =>
    rcases Nat.lt_or_ge j (k + 1) with h1 | h1
    · exact (ih (by omega)).trans (stepR_pre ..)
    · rw [show j = k + 1 by omega]; exact List.prefix_rfl
theorem stR_pre1 (rs : List (Nat × Nat)) (w : Int) (s : Nat) (i : Nat) : stR rs w s i <+: stR rs w s (i + 1) := by
  show _ <+: (if _ then _ else _)
  split
  · exact scanR_pre ..
  · exact List.prefix_rfl
theorem stR_pre (rs : List (Nat × Nat)) (w : Int) (s : Nat) {i j : Nat} (h : i ≤ j) : stR rs w s i <+: stR rs w s j := by
  induction j with
  | zero => rw [show i = 0 by omega]; exact List.prefix_rfl
  | succ j ih =>
    rcases Nat.lt_or_ge i (j + 1) with h1 | h1
    · exact (ih (by omega)).trans (stR_pre1 ..)
    · rw [show i = j + 1 by omega]; exact List.prefix_rfl
theorem stepA_nodup {w : Int} {x : Nat} {out : List Nat} {k a b : Nat} (h : out.Nodup) : (stepA w x out k a b).Nodup := by
  unfold stepA
  split
  · rename_i h1
    rw [List.nodup_append]
    exact ⟨h, by simp, fun y hy z hz => by simp at hz; subst hz; exact fun e => h1.2.2 (e ▸ hy)⟩
  · exact h
theorem scanR_nodup {rs : List (Nat × Nat)} {w : Int} {x : Nat} {out : List Nat} (h : out.Nodup) : ∀ k, (scanR rs w x out k).Nodup
  | 0 => h
  | k + 1 => stepA_nodup (stepA_nodup (scanR_nodup h k))
theorem stR_nodup (rs : List (Nat × Nat)) (w : Int) (s : Nat) : ∀ i, (stR rs w s i).Nodup
  | 0 => by simp [stR]
  | i + 1 => by
    show List.Nodup (if _ then _ else _)
    split
    · exact scanR_nodup (stR_nodup rs w s i) _
    · exact stR_nodup rs w s i
theorem scanR_rch {rs : List (Nat × Nat)} {w : Int} {s x : Nat} {out : List Nat} (h : ∀ y ∈ out, Rch rs w s y) (hx : Rch rs w s x) : ∀ k, k ≤ rs.length → ∀ y ∈ scanR rs w x out k, Rch rs w s y
  | 0, _, y, hy => h y hy
  | k + 1, hk, y, hy => by
    have ih := scanR_rch h hx k (by omega)
    obtain ⟨a, b, hr⟩ : ∃ a b, rs.getD k (0, 0) = (a, b) := ⟨_, _, rfl⟩
    have hy' : y ∈ stepA w x (stepA w x (scanR rs w x out k) k (rs.getD k (0, 0)).1 (rs.getD k (0, 0)).2) k (rs.getD k (0, 0)).2 (rs.getD k (0, 0)).1 := hy
    rw [hr] at hy'
    unfold stepA at hy'
    simp only at hy'
    have key : ∀ L : List Nat, (∀ z ∈ L, Rch rs w s z) → ∀ c d : Nat, (rs.getD k (0, 0) = (c, d) ∨ rs.getD k (0, 0) = (d, c)) → ∀ z ∈ (if (k : Int) ≠ w ∧ c = x ∧ d ∉ L then L ++ [d] else L), Rch rs w s z := by
      intro L hL c d hcd z hz
      split at hz
      · rename_i h1
        rcases List.mem_append.1 hz with h2 | h2
        · exact hL z h2
        · simp at h2
          subst h2
          obtain ⟨h3, rfl, _⟩ := h1
          rcases hcd with h4 | h4
          · exact .fwd hx (by omega) h3 h4
          · exact .bwd hx (by omega) h3 h4
      · exact hL z hz
    exact key _ (key _ ih a b (.inl hr)) b a (.inr hr) y hy'
theorem lGetD_mem {l : List Nat} {i : Nat} (h : i < l.length) : l.getD i 0 ∈ l := by
  rw [List.getD_eq_getElem?_getD, List.getElem?_eq_getElem h]
  exact List.getElem_mem h
theorem stR_rch (rs : List (Nat × Nat)) (w : Int) (s : Nat) : ∀ i, ∀ y ∈ stR rs w s i, Rch rs w s y
  | 0, y, hy => by simp [stR] at hy; subst hy; exact .base
  | i + 1, y, hy => by
    have ih := stR_rch rs w s i
    have hy' : y ∈ (if i < (stR rs w s i).length then scanR rs w ((stR rs w s i).getD i 0) (stR rs w s i) rs.length else stR rs w s i) := hy
    split at hy'
    · rename_i h1
      exact scanR_rch ih (ih _ (lGetD_mem h1)) _ (Nat.le_refl _) y hy'
    · exact ih y hy'
theorem stepA_has {w : Int} {x : Nat} {out : List Nat} {k a b : Nat} (h : (k : Int) ≠ w) (ha : a = x) : b ∈ stepA w x out k a b := by
  unfold stepA
  by_cases hb : b ∈ out
  · rw [if_neg (fun q => q.2.2 hb)]; exact hb
  · rw [if_pos ⟨h, ha, hb⟩]; simp
theorem scanR_has {rs : List (Nat × Nat)} {w : Int} {x : Nat} {out : List Nat} {k : Nat} (hk : k < rs.length) (h : (k : Int) ≠ w) {a b : Nat} (hr : rs.getD k (0, 0) = (a, b)) :
    (a = x → b ∈ scanR rs w x out rs.length) ∧ (b = x → a ∈ scanR rs w x out rs.length) := by
  have hp := scanR_pre' rs w x out (show k + 1 ≤ rs.length by omega)
  have e : scanR rs w x out (k + 1) = stepA w x (stepA w x (scanR rs w x out k) k a b) k b a := by
    show stepR _ _ _ _ _ = _
    rw [hr]; rfl
  rw [e] at hp
  exact ⟨fun ha => hp.subset ((stepA_pre ..).subset (stepA_has h ha)), fun hb => hp.subset (stepA_has h hb)⟩
theorem pre_getD {l m : List Nat} (h : l <+: m) {i : Nat} (hi : i < l.length) : m.getD i 0 = l.getD i 0 := by
  obtain ⟨t, rfl⟩ := h
  simp [List.getD_eq_getElem?_getD, List.getElem?_append_left hi]
/-- Behind round i all that its spots lead to is there. -/
theorem stR_closed {rs : List (Nat × Nat)} {w : Int} {s : Nat} {i j : Nat} (hj : j < i) (hl : j < (stR rs w s i).length) {k : Nat} (hk : k < rs.length) (h : (k : Int) ≠ w) {a b : Nat} (hr : rs.getD k (0, 0) = (a, b)) :
    (a = (stR rs w s i).getD j 0 → b ∈ stR rs w s i) ∧ (b = (stR rs w s i).getD j 0 → a ∈ stR rs w s i) := by
  induction i with
  | zero => omega
  | succ i ih =>
    have e : stR rs w s (i + 1) = if i < (stR rs w s i).length then scanR rs w ((stR rs w s i).getD i 0) (stR rs w s i) rs.length else stR rs w s i := rfl
    have hp := stR_pre1 rs w s i
    rcases Nat.lt_or_ge j i with h1 | h1
    · by_cases h2 : j < (stR rs w s i).length
      · obtain ⟨q1, q2⟩ := ih h1 h2
        rw [pre_getD hp h2]
        exact ⟨fun q => hp.subset (q1 q), fun q => hp.subset (q2 q)⟩
      · rw [if_neg (by omega)] at e
        rw [e] at hl
        exact absurd hl h2
    · obtain rfl : j = i := by omega
      by_cases h2 : j < (stR rs w s j).length
      · rw [pre_getD hp h2]
        rw [e, if_pos h2]
        exact scanR_has hk h hr
      · rw [if_neg h2] at e
        rw [e] at hl
        exact absurd hl h2
/-- A round that has come to the end of the list: the list is all that can be reached. -/
theorem stR_all {rs : List (Nat × Nat)} {w : Int} {s i : Nat} (hi : (stR rs w s i).length ≤ i) (y : Nat) : y ∈ stR rs w s i ↔ Rch rs w s y := by
  refine ⟨stR_rch rs w s i y, fun h => ?_⟩
  induction h with
  | base =>
    have hp := stR_pre rs w s (Nat.zero_le i)
    exact hp.subset (by simp [stR])
  | fwd _ hk hw hr ih =>
    obtain ⟨j, hj, e⟩ := List.getElem_of_mem ih
    exact (stR_closed (show j < i by omega) hj hk hw hr).1 (by simp [List.getD_eq_getElem?_getD, hj, e])
  | bwd _ hk hw hr ih =>
    obtain ⟨j, hj, e⟩ := List.getElem_of_mem ih
    exact (stR_closed (show j < i by omega) hj hk hw hr).2 (by simp [List.getD_eq_getElem?_getD, hj, e])
theorem rch_lt {rs : List (Nat × Nat)} {w : Int} {s n y : Nat} (hs : s < n) (hrs : ∀ k, k < rs.length → (rs.getD k (0, 0)).1 < n ∧ (rs.getD k (0, 0)).2 < n) (h : Rch rs w s y) : y < n := by
  induction h with
  | base => exact hs
  | fwd _ hk _ hr _ => have := (hrs _ hk).2; rw [hr] at this; exact this
  | bwd _ hk _ hr _ => have := (hrs _ hk).1; rw [hr] at this; exact this
theorem nodup_sub : ∀ {l m : List Nat}, l.Nodup → l ⊆ m → l.length ≤ m.length
  | [], _, _, _ => Nat.zero_le _
  | a :: t, m, hd, h => by
    have hm : a ∈ m := h (List.mem_cons_self ..)
    have ht := nodup_sub (m := m.erase a) (List.nodup_cons.1 hd).2 fun y hy => (List.mem_erase_of_ne (fun e : y = a => (List.nodup_cons.1 hd).1 (by rw [← e]; exact hy))).2 (h (List.mem_cons_of_mem _ hy))
    rw [List.length_erase_of_mem hm] at ht
    have := List.length_pos_of_mem hm
    show t.length + 1 ≤ _
    omega
theorem nodup_len {l : List Nat} {n : Nat} (hd : l.Nodup) (h : ∀ y ∈ l, y < n) : l.length ≤ n := by
  have h1 : l ⊆ List.range n := fun y hy => by simpa using h y hy
  simpa using nodup_sub hd h1
theorem stR_len {rs : List (Nat × Nat)} {w : Int} {s n : Nat} (hs : s < n) (hrs : ∀ k, k < rs.length → (rs.getD k (0, 0)).1 < n ∧ (rs.getD k (0, 0)).2 < n) (i : Nat) : (stR rs w s i).length ≤ n :=
  nodup_len (stR_nodup ..) fun y hy => rch_lt hs hrs (stR_rch rs w s i y hy)
/-- All n spots can be reached exactly if the list has n. -/
theorem stR_full {rs : List (Nat × Nat)} {w : Int} {s n i : Nat} (hs : s < n) (hrs : ∀ k, k < rs.length → (rs.getD k (0, 0)).1 < n ∧ (rs.getD k (0, 0)).2 < n) (hi : (stR rs w s i).length ≤ i) : (stR rs w s i).length = n ↔ ∀ y, y < n → Rch rs w s y := by
  constructor
  · intro h y hy
    rw [← stR_all hi]
    refine Decidable.byContradiction fun hn => ?_
    have h2 : (y :: stR rs w s i).Nodup := List.nodup_cons.2 ⟨hn, stR_nodup ..⟩
    have h3 := nodup_len h2 fun z hz => by
      rcases List.mem_cons.1 hz with rfl | hz
      · exact hy
      · exact rch_lt hs hrs (stR_rch rs w s i z hz)
    simp only [List.length_cons] at h3
    omega
  · intro h
    have h1 : List.range n ⊆ stR rs w s i := fun y hy => (stR_all hi y).2 (h y (by simpa using hy))
    have h2 := nodup_sub List.nodup_range h1
    have h3 := stR_len (w := w) hs hrs i
    simp at h2
    omega
end Go.Proofs.Ytmabfnddedffoaa
/- A tree of runs: without any one of them its two spots are apart: plain laws. -/
namespace Go.Proofs.Ytmabfnddedffoaa
set_option linter.unusedVariables false
set_option linter.unusedSimpArgs false
set_option linter.unusedSectionVars false
theorem Rch.trans {rs : List (Nat × Nat)} {w : Int} {s x y : Nat} (h : Rch rs w s x) (k : Rch rs w x y) : Rch rs w s y := by
  induction k with
  | base => exact h
  | fwd _ hk hw hr ih => exact .fwd ih hk hw hr
  | bwd _ hk hw hr ih => exact .bwd ih hk hw hr
theorem Rch.symm {rs : List (Nat × Nat)} {w : Int} {s y : Nat} (h : Rch rs w s y) : Rch rs w y s := by
  induction h with
  | base => exact .base
  | fwd _ hk hw hr ih => exact (Rch.bwd .base hk hw hr).trans ih
  | bwd _ hk hw hr ih => exact (Rch.fwd .base hk hw hr).trans ih
/-- Names of the parts that hang together, after some runs. -/
def lab (rs : List (Nat × Nat)) (w : Int) : Nat → Nat → Nat
  | 0, y => y
  | k + 1, y => if (k : Int) = w then lab rs w k y else if lab rs w k y = lab rs w k (rs.getD k (0, 0)).1 then lab rs w k (rs.getD k (0, 0)).2 else lab rs w k y
theorem lab_edge {rs : List (Nat × Nat)} {w : Int} : ∀ {k j : Nat}, j < k → (j : Int) ≠ w → ∀ {a b : Nat}, rs.getD j (0, 0) = (a, b) → lab rs w k a = lab rs w k b
  | 0, j, h, _, _, _, _ => by omega
  | k + 1, j, h, hw, a, b, hr => by
    rcases Nat.lt_or_ge j k with h1 | h1
    · have ih := lab_edge (rs := rs) (w := w) h1 hw hr
      simp only [lab]
      rw [ih]
    · obtain rfl : j = k := by omega
      simp only [lab, if_neg hw, hr, if_true]
      by_cases h2 : lab rs w j b = lab rs w j a
      · rw [if_pos h2]
      · rw [if_neg h2]
theorem lab_rch {rs : List (Nat × Nat)} {w : Int} {s y : Nat} (h : Rch rs w s y) : lab rs w rs.length s = lab rs w rs.length y := by
  induction h with
  | base => rfl
  | fwd _ hk hw hr ih => rw [ih, lab_edge hk hw hr]
  | bwd _ hk hw hr ih => rw [ih, lab_edge hk hw hr]
theorem countP_near {p q : Nat → Bool} {c : Nat} : ∀ {l : List Nat}, l.Nodup → (∀ x, x ≠ c → p x = true → q x = true) → l.countP p ≤ l.countP q + 1
  | [], _, _ => by simp
  | a :: l, hd, h => by
    obtain ⟨h1, h2⟩ := List.nodup_cons.1 hd
    by_cases ha : a = c
    · subst ha
      have h3 : l.countP p ≤ l.countP q := List.countP_mono_left fun x hx hp => h x (fun e => h1 (e ▸ hx)) hp
      simp only [List.countP_cons]
      split <;> split <;> omega
    · have ih := countP_near h2 h
      simp only [List.countP_cons]
      split
      · rename_i hp
        rw [if_pos (h a ha hp)]
        omega
      · split <;> omega
/-- How many of the first k runs are taken. -/
def takenN (w : Int) : Nat → Nat
  | 0 => 0
  | k + 1 => if (k : Int) = w then takenN w k else takenN w k + 1
theorem taken_but (j : Nat) : ∀ k, (k ≤ j → takenN j k = k) ∧ (j < k → takenN j k + 1 = k)
  | 0 => ⟨fun _ => rfl, fun h => by omega⟩
  | k + 1 => by
    obtain ⟨h1, h2⟩ := taken_but j k
    simp only [takenN]
    constructor
    · intro h
      rw [if_neg (by omega), h1 (by omega)]
    · intro h
      by_cases hk : k = j
      · subst hk
        rw [if_pos rfl, h1 (Nat.le_refl _)]
      · rw [if_neg (by omega)]
        have := h2 (by omega)
        omega
def rootsN (rs : List (Nat × Nat)) (w : Int) (n k : Nat) : Nat := (List.range n).countP fun x => decide (lab rs w k x = x)
theorem roots_many (rs : List (Nat × Nat)) (w : Int) (n : Nat) : ∀ k, n ≤ rootsN rs w n k + takenN w k
  | 0 => by
    have h : rootsN rs w n 0 = (List.range n).length := List.countP_eq_length.2 fun x _ => by simp [lab]
    rw [h]
    simp
  | k + 1 => by
    have ih := roots_many rs w n k
    by_cases hw : (k : Int) = w
    · have e : rootsN rs w n (k + 1) = rootsN rs w n k := by simp only [rootsN, lab, if_pos hw]
      simp only [takenN, if_pos hw]
      omega
    · simp only [takenN, if_neg hw]
      have h1 : rootsN rs w n k ≤ rootsN rs w n (k + 1) + 1 := by
        refine countP_near (c := lab rs w k (rs.getD k (0, 0)).1) List.nodup_range fun x hx hp => ?_
        simp only [decide_eq_true_eq] at hp ⊢
        simp only [lab, if_neg hw]
        rw [hp, if_neg hx]
      omega
theorem two_of_count {p : Nat → Bool} : ∀ {l : List Nat}, l.Nodup → 2 ≤ l.countP p → ∃ x y, x ∈ l ∧ y ∈ l ∧ x ≠ y ∧ p x = true ∧ p y = true
  | [], _, h => by simp at h
  | a :: l, hd, h => by
    obtain ⟨h1, h2⟩ := List.nodup_cons.1 hd
    by_cases ha : p a = true
    · rw [List.countP_cons, if_pos ha] at h
      have h3 : 0 < l.countP p := by omega
      obtain ⟨y, hy, hp⟩ := List.countP_pos_iff.1 h3
      exact ⟨a, y, List.mem_cons_self .., List.mem_cons_of_mem _ hy, fun e => h1 (e ▸ hy), ha, hp⟩
    · rw [List.countP_cons, if_neg ha] at h
      obtain ⟨x, y, hx, hy, q⟩ := two_of_count h2 (by omega)
      exact ⟨x, y, List.mem_cons_of_mem _ hx, List.mem_cons_of_mem _ hy, q⟩
/-- n spots, n - 1 runs between them, and all hang together. -/
structure TreeR (rs : List (Nat × Nat)) (n : Nat) : Prop where
  len : rs.length + 1 = n
  lt : ∀ k, k < rs.length → (rs.getD k (0, 0)).1 < n ∧ (rs.getD k (0, 0)).2 < n
  all : ∀ y, y < n → Rch rs (-1) 0 y
/-- Without a run its spots are apart. -/
theorem TreeR.bridge {rs : List (Nat × Nat)} {n : Nat} (h : TreeR rs n) {j : Nat} (hj : j < rs.length) {a b : Nat} (hr : rs.getD j (0, 0) = (a, b)) : ¬ Rch rs j a b := by
  intro hab
  have hre : ∀ y, Rch rs (-1) 0 y → Rch rs j 0 y := by
    intro y hy
    induction hy with
    | base => exact .base
    | @fwd x y k _ hk _ hr' ih =>
      by_cases hkj : k = j
      · subst hkj
        rw [hr] at hr'
        injection hr' with e1 e2
        subst e1 e2
        exact ih.trans hab
      · exact .fwd ih hk (by omega) hr'
    | @bwd x y k _ hk _ hr' ih =>
      by_cases hkj : k = j
      · subst hkj
        rw [hr] at hr'
        injection hr' with e1 e2
        subst e1 e2
        exact ih.trans hab.symm
      · exact .bwd ih hk (by omega) hr'
  have h1 := roots_many rs (j : Int) n rs.length
  have h2 := (taken_but j rs.length).2 hj
  have h3 := h.len
  obtain ⟨x, y, hx, hy, hne, hp, hq⟩ := two_of_count List.nodup_range (show 2 ≤ rootsN rs (j : Int) n rs.length by omega)
  simp only [decide_eq_true_eq] at hp hq
  have e1 := lab_rch (hre x (h.all x (by simpa using hx)))
  have e2 := lab_rch (hre y (h.all y (by simpa using hy)))
  exact hne (by rw [← hp, ← hq, ← e1, ← e2])
theorem TreeR.all' {rs : List (Nat × Nat)} {n : Nat} (h : TreeR rs n) {x y : Nat} (hx : x < n) (hy : y < n) : Rch rs (-1) x y := (h.all x hx).symm.trans (h.all y hy)
/-- No two runs between the same spots. -/
theorem TreeR.once {rs : List (Nat × Nat)} {n : Nat} (h : TreeR rs n) {j k : Nat} (hj : j < rs.length) (hk : k < rs.length) {a b : Nat} (hr : rs.getD j (0, 0) = (a, b)) (hr' : rs.getD k (0, 0) = (a, b) ∨ rs.getD k (0, 0) = (b, a)) : j = k := by
  refine Decidable.byContradiction fun hne => h.bridge hj hr ?_
  rcases hr' with h1 | h1
  · exact .fwd .base hk (by omega) h1
  · exact .bwd .base hk (by omega) h1
end Go.Proofs.Ytmabfnddedffoaa
/- The way between two spots of a tree: plain laws. -/
namespace Go.Proofs.Ytmabfnddedffoaa
set_option linter.unusedVariables false
set_option linter.unusedSimpArgs false
set_option linter.unusedSectionVars false
/-- Run k joins x and y. -/
def Inc (rs : List (Nat × Nat)) (k x y : Nat) : Prop := rs.getD k (0, 0) = (x, y) ∨ rs.getD k (0, 0) = (y, x)
theorem Inc.symm {rs : List (Nat × Nat)} {k x y : Nat} (h : Inc rs k x y) : Inc rs k y x := Or.symm h
theorem Rch.step {rs : List (Nat × Nat)} {w : Int} {s x y k : Nat} (h : Rch rs w s x) (hk : k < rs.length) (hw : (k : Int) ≠ w) (hi : Inc rs k x y) : Rch rs w s y := by
  rcases hi with hi | hi
  · exact .fwd h hk hw hi
  · exact .bwd h hk hw hi
theorem Rch.weak {rs : List (Nat × Nat)} {w : Int} {s y : Nat} (h : Rch rs w s y) : Rch rs (-1) s y := by
  induction h with
  | base => exact .base
  | fwd _ hk hw hr ih => exact .fwd ih hk (by omega) hr
  | bwd _ hk hw hr ih => exact .bwd ih hk (by omega) hr
theorem Rch.other {rs : List (Nat × Nat)} {w : Int} {s y v a b : Nat} (h : Rch rs w s y) (hv : rs.getD v (0, 0) = (a, b)) : Rch rs v s y ∨ (Rch rs w s a ∧ Rch rs w s b) := by
  induction h with
  | base => exact .inl .base
  | @fwd x y k hx hk hw hr ih =>
    by_cases hkv : k = v
    · subst hkv
      rw [hr] at hv
      injection hv with e1 e2
      subst e1 e2
      exact .inr ⟨hx, .fwd hx hk hw hr⟩
    · rcases ih with h1 | h1
      · exact .inl (.fwd h1 hk (by omega) hr)
      · exact .inr h1
  | @bwd x y k hx hk hw hr ih =>
    by_cases hkv : k = v
    · subst hkv
      rw [hr] at hv
      injection hv with e1 e2
      subst e1 e2
      exact .inr ⟨.bwd hx hk hw hr, hx⟩
    · rcases ih with h1 | h1
      · exact .inl (.bwd h1 hk (by omega) hr)
      · exact .inr h1
theorem Rch.other' {rs : List (Nat × Nat)} {w : Int} {s y v a b : Nat} (h : Rch rs w s y) (hv : Inc rs v a b) : Rch rs v s y ∨ (Rch rs w s a ∧ Rch rs w s b) := by
  rcases hv with hv | hv
  · exact h.other hv
  · rcases h.other hv with h | h
    · exact .inl h
    · exact .inr ⟨h.2, h.1⟩
section
variable {rs : List (Nat × Nat)} {n : Nat} (T : TreeR rs n)
include T
theorem TreeR.apart {k x y : Nat} (hk : k < rs.length) (h : Inc rs k x y) : ¬ Rch rs k x y := by
  rcases h with h | h
  · exact T.bridge hk h
  · exact fun q => T.bridge hk h q.symm
theorem TreeR.same {j k x y : Nat} (hj : j < rs.length) (hk : k < rs.length) (h1 : Inc rs j x y) (h2 : Inc rs k x y) : j = k := by
  rcases h1 with h1 | h1
  · exact T.once hj hk h1 h2
  · exact T.once hj hk h1 h2.symm
/-- What lies behind the next run lies behind this one. -/
theorem TreeR.side_sub {w : Int} {k x y z : Nat} (hk : k < rs.length) (hne : (k : Int) ≠ w) (hw : w = -1 ∨ ∃ j p, j < rs.length ∧ w = (j : Nat) ∧ Inc rs j p x) (h : Inc rs k x y) (hz : Rch rs k y z) : Rch rs w x z := by
  rcases hw with rfl | ⟨j, p, hj, rfl, hi⟩
  · exact (Rch.step .base hk hne h).trans hz.weak
  · rcases hz.other' hi with h1 | h1
    · exact (Rch.step .base hk hne h).trans h1
    · exact absurd h1.2.symm (T.apart hk h)
/-- One run alone leads from a spot to another one. -/
theorem TreeR.side_one {k1 k2 x y1 y2 z : Nat} (hk1 : k1 < rs.length) (hk2 : k2 < rs.length) (h1 : Inc rs k1 x y1) (h2 : Inc rs k2 x y2) (hz1 : Rch rs k1 y1 z) (hz2 : Rch rs k2 y2 z) : k1 = k2 := by
  refine Decidable.byContradiction fun hne => ?_
  rcases hz1.other' h2 with h | h
  · exact T.apart hk2 h2 ((Rch.step .base hk1 (by omega) h1).trans (h.trans hz2.symm))
  · exact T.apart hk1 h1 h.1.symm
theorem TreeR.side_some {w : Int} {x z : Nat} (h : Rch rs w x z) : x = z ∨ ∃ k y, k < rs.length ∧ (k : Int) ≠ w ∧ Inc rs k x y ∧ Rch rs k y z := by
  have key : ∀ {u z k0 : Nat}, (x = u ∨ ∃ k y, k < rs.length ∧ (k : Int) ≠ w ∧ Inc rs k x y ∧ Rch rs k y u) → k0 < rs.length → (k0 : Int) ≠ w → Inc rs k0 u z → x = z ∨ ∃ k y, k < rs.length ∧ (k : Int) ≠ w ∧ Inc rs k x y ∧ Rch rs k y z := by
    intro u z k0 ih hk0 hw0 hi
    rcases ih with rfl | ⟨k, y, hk, hw, hxy, hu⟩
    · exact .inr ⟨k0, z, hk0, hw0, hi, .base⟩
    · by_cases he : k0 = k
      · subst he
        have h3 : (u = x ∧ z = y) ∨ (u = y ∧ z = x) := by
          rcases hi with h1 | h1 <;> rcases hxy with h2 | h2 <;> rw [h1] at h2 <;> injection h2 with e1 e2 <;> simp_all
        rcases h3 with ⟨rfl, rfl⟩ | ⟨rfl, rfl⟩
        · exact absurd hu.symm (T.apart hk0 hxy)
        · exact .inl rfl
      · exact .inr ⟨k, y, hk, hw, hxy, hu.step hk0 (by omega) hi⟩
  induction h with
  | base => exact .inl rfl
  | fwd _ hk hw hr ih => exact key ih hk hw (.inl hr)
  | bwd _ hk hw hr ih => exact key ih hk hw (.inr hr)
theorem TreeR.inc_lt {k x y : Nat} (hk : k < rs.length) (h : Inc rs k x y) : x < n ∧ y < n := by
  have h1 := T.lt k hk
  rcases h with h | h <;> rw [h] at h1
  · exact h1
  · exact ⟨h1.2, h1.1⟩
end
theorem countP_lt {p q : Nat → Bool} : ∀ {l : List Nat} {c : Nat}, c ∈ l → (∀ x, p x = true → q x = true) → p c = false → q c = true → l.countP p < l.countP q
  | [], _, hc, _, _, _ => by simp at hc
  | a :: l, c, hc, h, hp, hq => by
    simp only [List.countP_cons]
    have hle : l.countP p ≤ l.countP q := List.countP_mono_left fun x _ hx => h x hx
    rcases List.mem_cons.1 hc with rfl | hc
    · rw [hp, hq]; simp; omega
    · have ih := countP_lt hc h hp hq
      by_cases ha : p a = true
      · rw [if_pos ha, if_pos (h a ha)]; omega
      · rw [if_neg ha]; split <;> omega
open Classical in
/-- How many spots lie behind a run. -/
noncomputable def sideN (rs : List (Nat × Nat)) (n : Nat) (w : Int) (x : Nat) : Nat := (List.range n).countP fun z => decide (Rch rs w x z)
section
variable {rs : List (Nat × Nat)} {n : Nat} (T : TreeR rs n)
include T
theorem TreeR.side_less {w : Int} {k x y : Nat} (hk : k < rs.length) (hne : (k : Int) ≠ w) (hw : w = -1 ∨ ∃ j p, j < rs.length ∧ w = (j : Nat) ∧ Inc rs j p x) (h : Inc rs k x y) : sideN rs n k y < sideN rs n w x := by
  unfold sideN
  refine countP_lt (c := x) (by simpa using (T.inc_lt hk h).1) (fun z hz => ?_) ?_ ?_
  · simp only [decide_eq_true_eq] at hz ⊢
    exact T.side_sub hk hne hw h hz
  · simp only [decide_eq_false_iff_not]
    exact fun q => T.apart hk h q.symm
  · simp only [decide_eq_true_eq]
    exact .base
theorem sideN_le (w : Int) (x : Nat) : sideN rs n w x ≤ n := by
  unfold sideN
  have := List.countP_le_length (l := List.range n) (p := fun z => @decide (Rch rs w x z) (Classical.propDecidable _))
  simpa using this
end
/-- The way from a spot to another one, and not back. -/
inductive WayP (rs : List (Nat × Nat)) : Int → Nat → List Nat → Nat → Prop
  | nil {w : Int} {x : Nat} : WayP rs w x [] x
  | cons {w : Int} {x y z k : Nat} {P : List Nat} : k < rs.length → (k : Int) ≠ w → Inc rs k x y → x ≠ z → Rch rs k y z → WayP rs k y P z → WayP rs w x (k :: P) z
theorem WayP.rch {rs : List (Nat × Nat)} {w : Int} {x z : Nat} {P : List Nat} {n : Nat} (T : TreeR rs n) (hw : w = -1 ∨ ∃ j p, j < rs.length ∧ w = (j : Nat) ∧ Inc rs j p x) (h : WayP rs w x P z) : Rch rs w x z := by
  cases h with
  | nil => exact .base
  | cons hk hne hi _ hr _ => exact T.side_sub hk hne hw hi hr
theorem inc_det {rs : List (Nat × Nat)} {k x y y' : Nat} (h : Inc rs k x y) (h' : Inc rs k x y') : y = y' := by
  rcases h with h | h <;> rcases h' with h' | h' <;> rw [h] at h' <;> injection h' with e1 e2 <;> simp_all
theorem WayP.one {rs : List (Nat × Nat)} {n : Nat} (T : TreeR rs n) : ∀ {P P' : List Nat} {w w' : Int} {x z : Nat}, WayP rs w x P z → WayP rs w' x P' z → P = P'
  | [], [], _, _, _, _, _, _ => rfl
  | [], _ :: _, _, _, _, _, h, h' => by
    cases h
    cases h' with
    | cons _ _ _ hne _ _ => exact absurd rfl hne
  | _ :: _, [], _, _, _, _, h, h' => by
    cases h'
    cases h with
    | cons _ _ _ hne _ _ => exact absurd rfl hne
  | k :: P, k' :: P', _, _, x, z, h, h' => by
    cases h with
    | cons hk _ hi _ hr hP =>
      cases h' with
      | cons hk' _ hi' _ hr' hP' =>
        have hkk := T.side_one hk hk' hi hi' hr hr'
        subst hkk
        have hyy := inc_det hi hi'
        subst hyy
        rw [WayP.one T hP hP']
/-- There is a way. -/
theorem WayP.some {rs : List (Nat × Nat)} {n : Nat} (T : TreeR rs n) : ∀ (m : Nat) {w : Int} {x z : Nat}, sideN rs n w x ≤ m → (w = -1 ∨ ∃ j p, j < rs.length ∧ w = (j : Nat) ∧ Inc rs j p x) → Rch rs w x z → ∃ P, WayP rs w x P z
  | m, w, x, z, hm, hw, h => by
    rcases T.side_some h with rfl | ⟨k, y, hk, hne, hi, hr⟩
    · exact ⟨[], .nil⟩
    · by_cases hxz : x = z
      · subst hxz; exact ⟨[], .nil⟩
      · have hl := T.side_less hk hne hw hi
        match m, hm with
        | 0, hm => omega
        | m + 1, hm =>
          obtain ⟨P, hP⟩ := WayP.some T m (w := (k : Int)) (by omega) (.inr ⟨k, x, hk, rfl, hi⟩) hr
          exact ⟨k :: P, .cons hk hne hi hxz hr hP⟩
end Go.Proofs.Ytmabfnddedffoaa
/- The runs of a way are those that part its ends; distances: plain laws. -/
namespace Go.Proofs.Ytmabfnddedffoaa
set_option linter.unusedVariables false
set_option linter.unusedSimpArgs false
set_option linter.unusedSectionVars false
theorem WayP.mem {rs : List (Nat × Nat)} {n : Nat} (T : TreeR rs n) {w : Int} {x z : Nat} {P : List Nat} (h : WayP rs w x P z) : P.Nodup ∧ ∀ j, j < rs.length → (j ∈ P ↔ ¬ Rch rs j x z) := by
  induction h with
  | nil => exact ⟨List.nodup_nil, fun j _ => ⟨fun q => by simp at q, fun q => absurd .base q⟩⟩
  | @cons w x y z k P hk hne hi hxz hr hP ih =>
    obtain ⟨h1, h2⟩ := ih
    have hkP : k ∉ P := fun q => (h2 k hk).1 q hr
    refine ⟨List.nodup_cons.2 ⟨hkP, h1⟩, fun j hj => ?_⟩
    by_cases hjk : j = k
    · subst hjk
      exact ⟨fun _ q => T.apart hk hi (q.trans hr.symm), fun _ => List.mem_cons_self ..⟩
    · have hxy : Rch rs j x y := Rch.step .base hk (by omega) hi
      constructor
      · intro q
        rcases List.mem_cons.1 q with q | q
        · exact absurd q hjk
        · exact fun q' => (h2 j hj).1 q (hxy.symm.trans q')
      · intro q
        exact List.mem_cons_of_mem _ ((h2 j hj).2 fun q' => q (hxy.trans q'))
theorem WayP.lt {rs : List (Nat × Nat)} {w : Int} {x z : Nat} {P : List Nat} (h : WayP rs w x P z) : ∀ j ∈ P, j < rs.length := by
  induction h with
  | nil => intro j hj; simp at hj
  | cons hk _ _ _ _ _ ih =>
    intro j hj
    rcases List.mem_cons.1 hj with rfl | hj
    · exact hk
    · exact ih j hj
/-- A sum over the first numbers. -/
def sumN (f : Nat → Int) : Nat → Int
  | 0 => 0
  | k + 1 => sumN f k + f k
theorem sumN_congr {f g : Nat → Int} : ∀ {m : Nat}, (∀ k, k < m → f k = g k) → sumN f m = sumN g m
  | 0, _ => rfl
  | m + 1, h => by
    show sumN f m + f m = sumN g m + g m
    rw [sumN_congr fun k hk => h k (by omega), h m (by omega)]
theorem sumN_add (f g : Nat → Int) : ∀ m, sumN (fun k => f k + g k) m = sumN f m + sumN g m
  | 0 => rfl
  | m + 1 => by
    show sumN _ m + (f m + g m) = sumN f m + f m + (sumN g m + g m)
    rw [sumN_add f g m]; omega
theorem sumN_zero : ∀ m, sumN (fun _ => 0) m = 0
  | 0 => rfl
  | m + 1 => by show sumN _ m + 0 = 0; rw [sumN_zero m]; rfl
theorem sumN_one (c : Nat) (v : Int) : ∀ m, sumN (fun k => if k = c then v else 0) m = if c < m then v else 0
  | 0 => by simp [sumN]
  | m + 1 => by
    show sumN _ m + (if m = c then v else 0) = _
    rw [sumN_one c v m]
    by_cases h1 : c < m
    · rw [if_pos h1, if_neg (by omega), if_pos (by omega)]; omega
    · by_cases h2 : m = c
      · rw [if_neg h1, if_pos h2, if_pos (by omega)]; omega
      · rw [if_neg h1, if_neg h2, if_neg (by omega)]; omega
open Classical in
/-- The distance of two spots: the runs that part them. -/
noncomputable def distN (rs : List (Nat × Nat)) (f : Nat → Int) (x z : Nat) : Int := sumN (fun k => if Rch rs k x z then 0 else f k) rs.length
end Go.Proofs.Ytmabfnddedffoaa
/- Spots joined, and the spot that is nearest to three: plain laws. -/
namespace Go.Proofs.Ytmabfnddedffoaa
set_option linter.unusedVariables false
set_option linter.unusedSimpArgs false
set_option linter.unusedSectionVars false
theorem rch_edge {rs : List (Nat × Nat)} {j k a b z : Nat} (hk : k < rs.length) (hi : Inc rs k a b) (h : j ≠ k) : Rch rs j a z ↔ Rch rs j b z :=
  ⟨fun q => (Rch.step .base hk (by omega) hi.symm).trans q, fun q => (Rch.step .base hk (by omega) hi).trans q⟩
section
variable {rs : List (Nat × Nat)} {n : Nat} (T : TreeR rs n)
include T
/-- Each spot lies on one side of a run. -/
theorem TreeR.sides {k a b : Nat} (hk : k < rs.length) (hi : Inc rs k a b) {z : Nat} (hz : z < n) : Rch rs k a z ∨ Rch rs k b z := by
  have key : ∀ {u v j : Nat}, (Rch rs k a u ∨ Rch rs k b u) → j < rs.length → Inc rs j u v → Rch rs k a v ∨ Rch rs k b v := by
    intro u v j ih hj hju
    by_cases hjk : j = k
    · subst hjk
      have h3 : (u = a ∧ v = b) ∨ (u = b ∧ v = a) := by
        rcases hju with h1 | h1 <;> rcases hi with h2 | h2 <;> rw [h1] at h2 <;> injection h2 with e1 e2 <;> simp_all
      rcases h3 with ⟨_, rfl⟩ | ⟨_, rfl⟩
      · exact .inr .base
      · exact .inl .base
    · rcases ih with h | h
      · exact .inl (h.step hj (by omega) hju)
      · exact .inr (h.step hj (by omega) hju)
  have h := T.all' (T.inc_lt hk hi).1 hz
  induction h with
  | base => exact .inl .base
  | @fwd x y j hx hj _ hr ih => exact key (ih (by have := T.lt j hj; rw [hr] at this; exact this.1)) hj (.inl hr)
  | @bwd x y j hx hj _ hr ih => exact key (ih (by have := T.lt j hj; rw [hr] at this; exact this.2)) hj (.inr hr)
open Classical in
/-- The far end of a run is farther by its length. -/
theorem TreeR.dist_edge {k a b s : Nat} (hk : k < rs.length) (hi : Inc rs k a b) (f : Nat → Int) (h : Rch rs k a s) : distN rs f b s = distN rs f a s + f k := by
  have hn : ¬ Rch rs k b s := fun q => T.apart hk hi (h.trans q.symm)
  have e : distN rs f b s = sumN (fun j => (if Rch rs j a s then 0 else f j) + (if j = k then f k else 0)) rs.length := by
    unfold distN
    refine sumN_congr fun j hj => ?_
    by_cases hjk : j = k
    · subst hjk
      rw [if_neg hn, if_pos h, if_pos rfl]; omega
    · rw [if_neg hjk]
      by_cases hq : Rch rs j a s
      · rw [if_pos hq, if_pos ((rch_edge hk hi hjk).1 hq)]; rfl
      · rw [if_neg hq, if_neg (fun q => hq ((rch_edge hk hi hjk).2 q))]; omega
  rw [e, sumN_add, sumN_one, if_pos hk]
  unfold distN
  congr 1
open Classical in
/-- The length of the runs that part some of the spots. -/
noncomputable def joinN (rs : List (Nat × Nat)) (f : Nat → Int) (l : List Nat) : Int := sumN (fun k => if ∃ x ∈ l, ∃ y ∈ l, ¬ Rch rs k x y then f k else 0) rs.length
/-- The first run towards a spot has behind it all that a run on the way has. -/
theorem TreeR.first_run {s x y k k' y' : Nat} (hk : k < rs.length) (hk' : k' < rs.length) (hi : Inc rs k' s y') (hr : Rch rs k' y' x) (h1 : ¬ Rch rs k s x) (h2 : ¬ Rch rs k s y) : ¬ Rch rs k' s y := by
  by_cases he : k' = k
  · subst he; exact h2
  · intro q
    obtain ⟨a, b, hab⟩ : ∃ a b, rs.getD k (0, 0) = (a, b) := ⟨_, _, rfl⟩
    rcases q.other hab with q1 | q1
    · exact h2 q1
    · rcases hr.other hab with q2 | q2
      · exact h1 ((Rch.step .base hk' (by omega) hi).trans q2)
      · exact T.apart hk' hi (q1.1.trans q2.1.symm)
end
def dist3 (rs : List (Nat × Nat)) (d : Nat → Nat → Int) (s x y z : Nat) : Int := d s x + d s y + d s z
section
variable {rs : List (Nat × Nat)} {n : Nat} (T : TreeR rs n) {f : Nat → Int} (hf : ∀ k, k < rs.length → 1 ≤ f k)
include T hf
end
end Go.Proofs.Ytmabfnddedffoaa
/- The list of what is reached, in order: each spot but the first has a neighbour before it; distances measured along it: plain laws. -/
namespace Go.Proofs.Ytmabfnddedffoaa
set_option linter.unusedVariables false
set_option linter.unusedSimpArgs false
set_option linter.unusedSectionVars false
/-- Each but the first has a neighbour before it. -/
def ParL (rs : List (Nat × Nat)) (w : Int) (out : List Nat) : Prop := ∀ p, 0 < p → p < out.length → ∃ q k, q < p ∧ k < rs.length ∧ (k : Int) ≠ w ∧ Inc rs k (out.getD q 0) (out.getD p 0)
theorem snoc_getD {l : List Nat} {b i : Nat} (h : i < l.length) : (l ++ [b]).getD i 0 = l.getD i 0 := pre_getD (List.prefix_append _ _) h
theorem snoc_last {l : List Nat} {b : Nat} : (l ++ [b]).getD l.length 0 = b := by simp [List.getD_eq_getElem?_getD]
theorem ParL.stepA {rs : List (Nat × Nat)} {w : Int} {out : List Nat} (h : ParL rs w out) {i x k a b : Nat} (hi : i < out.length) (hx : out.getD i 0 = x) (hk : k < rs.length) (hr : Inc rs k a b) : ParL rs w (stepA w x out k a b) := by
  unfold Go.Proofs.Ytmabfnddedffoaa.stepA
  split
  · rename_i h1
    obtain ⟨h1, rfl, h3⟩ := h1
    intro p hp hl
    by_cases hpl : p < out.length
    · obtain ⟨q, j, hq, hj, hw, hinc⟩ := h p hp hpl
      exact ⟨q, j, hq, hj, hw, by rw [snoc_getD (by omega), snoc_getD hpl]; exact hinc⟩
    · have hpe : p = out.length := by simp at hl; omega
      subst hpe
      exact ⟨i, k, hi, hk, h1, by rw [snoc_getD hi, snoc_last, hx]; exact hr⟩
  · exact h
theorem getD_inj {l : List Nat} (hd : l.Nodup) {p q : Nat} (hp : p < l.length) (hq : q < l.length) (h : l.getD p 0 = l.getD q 0) : p = q := by
  rw [List.getD_eq_getElem?_getD, List.getD_eq_getElem?_getD, List.getElem?_eq_getElem hp, List.getElem?_eq_getElem hq] at h
  simp only [Option.getD_some] at h
  have hpw := List.pairwise_iff_getElem.1 hd
  rcases Nat.lt_trichotomy p q with h1 | h1 | h1
  · exact absurd h (hpw p q hp hq h1)
  · exact h1
  · exact absurd h.symm (hpw q p hq hp h1)
/-- What stands before a spot in the list hangs together without the runs of that spot. -/
theorem ParL.before {rs : List (Nat × Nat)} {w : Int} {l : List Nat} (h : ParL rs w l) (hd : l.Nodup) {p k : Nat} (hp : p < l.length) {a : Nat} (hi : Inc rs k a (l.getD p 0)) : ∀ q, q < p → Rch rs k (l.getD 0 0) (l.getD q 0)
  | 0, _ => .base
  | q + 1, hq => by
    obtain ⟨r, j, hr, hj, _, hinc⟩ := h (q + 1) (by omega) (by omega)
    have ih := ParL.before h hd hp hi r (by omega)
    refine ih.step hj (fun e => ?_) hinc
    have e' : j = k := by omega
    subst e'
    have h3 : l.getD p 0 = l.getD r 0 ∨ l.getD p 0 = l.getD (q + 1) 0 := by
      rcases hinc with h1 | h1 <;> rcases hi with h2 | h2 <;> rw [h1] at h2 <;> injection h2 with e1 e2
      · exact .inr e2.symm
      · exact .inl e1.symm
      · exact .inl e2.symm
      · exact .inr e1.symm
    rcases h3 with h3 | h3
    · have := getD_inj hd hp (by omega) h3; omega
    · have := getD_inj hd hp (by omega) h3; omega
termination_by q => q
end Go.Proofs.Ytmabfnddedffoaa
/- The wires through a run; copper: plain laws. -/
namespace Go.Proofs.Ytmabfnddedffoaa
set_option linter.unusedVariables false
set_option linter.unusedSimpArgs false
set_option linter.unusedSectionVars false
section
variable {rs : List (Nat × Nat)} {n : Nat} (T : TreeR rs n)
include T
/-- Two spots are parted by a run exactly if one alone lies on its first spot's side. -/
theorem TreeR.part {k a b x y : Nat} (hk : k < rs.length) (hi : Inc rs k a b) (hx : x < n) (hy : y < n) : (Rch rs k a x ↔ Rch rs k a y) ↔ Rch rs k x y := by
  constructor
  · intro h
    rcases T.sides hk hi hx with h1 | h1 <;> rcases T.sides hk hi hy with h2 | h2
    · exact h1.symm.trans h2
    · exact h1.symm.trans (h.1 h1)
    · exact (h.2 h2).symm.trans h2
    · exact h1.symm.trans h2
  · intro h
    exact ⟨fun q => q.trans h, fun q => q.trans h.symm⟩
/-- The list of a side, as the program takes it. -/
theorem TreeR.side_list {k a b x y i : Nat} (hk : k < rs.length) (hi : Inc rs k a b) (hx : x < n) (hy : y < n) (hl : (stR rs k a i).length ≤ i) : (decide (x ∈ stR rs k a i) != decide (y ∈ stR rs k a i)) = true ↔ ¬ Rch rs k x y := by
  rw [← T.part hk hi hx hy, ← stR_all hl x, ← stR_all hl y]
  by_cases h1 : x ∈ stR rs k a i <;> by_cases h2 : y ∈ stR rs k a i <;> simp [h1, h2]
end
/-- The order of two sums does not matter. -/
theorem sumN_swap (g : Nat → Nat → Int) (m : Nat) : ∀ k, sumN (fun i => sumN (fun j => g i j) m) k = sumN (fun j => sumN (fun i => g i j) k) m
  | 0 => by
    show (0 : Int) = sumN (fun j => 0) m
    rw [sumN_zero]
  | k + 1 => by
    show sumN _ k + sumN (fun j => g k j) m = sumN (fun j => sumN (fun i => g i j) k + g k j) m
    rw [sumN_swap g m k, ← sumN_add]
theorem sumN_mul (f : Nat → Int) (c : Int) : ∀ m, sumN f m * c = sumN (fun k => f k * c) m
  | 0 => by simp [sumN]
  | m + 1 => by
    show (sumN f m + f m) * c = sumN _ m + f m * c
    rw [Int.add_mul, sumN_mul f c m]
open Classical in
/-- The copper of all wires is that of all runs. -/
theorem copper_runs (rs : List (Nat × Nat)) (f : Nat → Int) (m : Nat) (has : Nat → Bool) (size : Nat → Int) (u v : Nat → Nat) :
    sumN (fun i => if has i then distN rs f (u i) (v i) * size i else 0) m = sumN (fun k => sumN (fun i => if has i ∧ ¬ Rch rs k (u i) (v i) then size i else 0) m * f k) rs.length := by
  have e1 : ∀ i, (if has i = true then distN rs f (u i) (v i) * size i else 0) = sumN (fun k => (if has i = true ∧ ¬ Rch rs k (u i) (v i) then size i else 0) * f k) rs.length := by
    intro i
    by_cases hh : has i = true
    · rw [if_pos hh]
      unfold distN
      rw [sumN_mul]
      refine sumN_congr fun k _ => ?_
      by_cases hr : Rch rs k (u i) (v i)
      · rw [if_pos hr, if_neg (fun q => q.2 hr)]; simp
      · rw [if_neg hr, if_pos ⟨hh, hr⟩, Int.mul_comm]
    · rw [if_neg hh, sumN_congr (g := fun _ => 0) (fun k _ => by rw [if_neg (fun q => hh q.1)]; simp), sumN_zero]
  rw [sumN_congr fun i _ => e1 i, sumN_swap]
  refine sumN_congr fun k _ => ?_
  rw [sumN_mul]
end Go.Proofs.Ytmabfnddedffoaa
/- The spots of a way; what a search over the runs of a spot finds: plain laws. -/
namespace Go.Proofs.Ytmabfnddedffoaa
set_option linter.unusedVariables false
set_option linter.unusedSimpArgs false
set_option linter.unusedSectionVars false
/-- The other end of a run. -/
def farEnd (rs : List (Nat × Nat)) (k x : Nat) : Nat := if (rs.getD k (0, 0)).1 = x then (rs.getD k (0, 0)).2 else (rs.getD k (0, 0)).1
/-- The spots of a way. -/
def spotsW (rs : List (Nat × Nat)) : Nat → List Nat → List Nat
  | x, [] => [x]
  | x, k :: P => x :: spotsW rs (farEnd rs k x) P
theorem inc_far {rs : List (Nat × Nat)} {k x y : Nat} (h : Inc rs k x y) : farEnd rs k x = y := by
  unfold farEnd
  rcases h with h | h <;> rw [h] <;> simp only
  · simp
  · split
    · rename_i h1; exact h1.symm
    · rfl
theorem far_inc {rs : List (Nat × Nat)} {k x : Nat} (h : (rs.getD k (0, 0)).1 = x ∨ (rs.getD k (0, 0)).2 = x) : Inc rs k x (farEnd rs k x) := by
  unfold farEnd Inc
  obtain ⟨a, b, hr⟩ : ∃ a b, rs.getD k (0, 0) = (a, b) := ⟨_, _, rfl⟩
  rw [hr] at h ⊢
  simp only at h ⊢
  by_cases h1 : a = x
  · subst h1; rw [if_pos rfl]; exact .inl rfl
  · rw [if_neg h1]
    rcases h with h | h
    · exact absurd h h1
    · subst h; exact .inr rfl
theorem inc_ends {rs : List (Nat × Nat)} {k x y : Nat} (h : Inc rs k x y) : (rs.getD k (0, 0)).1 = x ∨ (rs.getD k (0, 0)).2 = x := by
  rcases h with h | h <;> rw [h]
  · exact .inl rfl
  · exact .inr rfl
/-- The sum of both ends less one is the other. -/
theorem far_sum {rs : List (Nat × Nat)} {k x : Nat} (h : (rs.getD k (0, 0)).1 = x ∨ (rs.getD k (0, 0)).2 = x) : (((rs.getD k (0, 0)).1 : Int) + ((rs.getD k (0, 0)).2 : Int) - (x : Int)) = (farEnd rs k x : Nat) := by
  unfold farEnd
  split <;> omega
theorem spotsW_first (rs : List (Nat × Nat)) (x : Nat) (P : List Nat) : (spotsW rs x P).getD 0 0 = x := by cases P <;> rfl
theorem WayP.step {rs : List (Nat × Nat)} {w : Int} {x z : Nat} {P : List Nat} (h : WayP rs w x P z) : ∀ t, t < P.length → P.getD t 0 < rs.length ∧ Inc rs (P.getD t 0) ((spotsW rs x P).getD t 0) ((spotsW rs x P).getD (t + 1) 0) := by
  induction h with
  | nil => intro t ht; simp at ht
  | @cons w x y z k P hk _ hi _ _ _ ih =>
    intro t ht
    simp only [spotsW, inc_far hi]
    match t, ht with
    | 0, _ =>
      refine ⟨hk, ?_⟩
      have h1 := spotsW_first rs y P
      simp only [List.getD_cons_zero, List.getD_cons_succ]
      rw [h1]; exact hi
    | t + 1, ht =>
      have := ih t (by simpa using ht)
      simpa using this
section
variable {rs : List (Nat × Nat)} {n : Nat} (T : TreeR rs n)
include T
/-- A search over the runs of a spot that has found no way: there is none. -/
theorem TreeR.none_way {w : Int} {x z : Nat} (hne : x ≠ z) (h : ∀ k, k < rs.length → (k : Int) ≠ w → ((rs.getD k (0, 0)).1 = x ∨ (rs.getD k (0, 0)).2 = x) → ¬ Rch rs k (farEnd rs k x) z) : ¬ Rch rs w x z := by
  intro q
  rcases T.side_some q with e | ⟨k, y, hk, hw, hi, hr⟩
  · exact hne e
  · have := h k hk hw (inc_ends hi)
    rw [inc_far hi] at this
    exact this hr
end
/-- The program's list of what is reached has at most as many rounds as spots: it comes to its end. -/
theorem stR_ends {rs : List (Nat × Nat)} {w : Int} {s n : Nat} (hs : s < n) (hrs : ∀ k, k < rs.length → (rs.getD k (0, 0)).1 < n ∧ (rs.getD k (0, 0)).2 < n) : (stR rs w s n).length ≤ n := stR_len hs hrs n
end Go.Proofs.Ytmabfnddedffoaa
/- What can be reached in a loom: the reference's marks: plain laws. -/
namespace Go.Proofs.Ytmabfnddedffoaa
set_option linter.unusedVariables false
set_option linter.unusedSimpArgs false
set_option linter.unusedSectionVars false
def setM (m : List Bool) (a b : Nat) : List Bool := m.set a (m.getD a false || m.getD b false)
def stepM (m : List Bool) (r : Nat × Nat) : List Bool := setM (setM m r.1 r.2) r.2 r.1
def scanM (rs : List (Nat × Nat)) (m : List Bool) : Nat → List Bool
  | 0 => m
  | k + 1 => stepM (scanM rs m k) (rs.getD k (0, 0))
def passM (rs : List (Nat × Nat)) (n : Nat) : Nat → List Bool
  | 0 => (List.replicate n false).set 0 true
  | j + 1 => scanM rs (passM rs n j) rs.length
/-- More marks. -/
def LeM (m m' : List Bool) : Prop := m.length = m'.length ∧ ∀ y, m.getD y false = true → m'.getD y false = true
theorem LeM.refl (m : List Bool) : LeM m m := ⟨rfl, fun _ h => h⟩
theorem LeM.trans {a b c : List Bool} (h : LeM a b) (k : LeM b c) : LeM a c := ⟨h.1.trans k.1, fun y q => k.2 y (h.2 y q)⟩
theorem LeM.tail {a b : Bool} {l m : List Bool} (h : LeM (a :: l) (b :: m)) : LeM l m := ⟨by have := h.1; simp at this; exact this, fun y q => by have := h.2 (y + 1); simpa using this (by simpa using q)⟩
theorem LeM.count : ∀ {l m : List Bool}, LeM l m → l.count true ≤ m.count true ∧ (l.count true = m.count true → l = m)
  | [], [], _ => ⟨Nat.le_refl _, fun _ => rfl⟩
  | [], b :: m, h => by have := h.1; simp at this
  | a :: l, [], h => by have := h.1; simp at this
  | a :: l, b :: m, h => by
    obtain ⟨h1, h2⟩ := LeM.count h.tail
    have h0 := h.2 0
    simp at h0
    cases a <;> cases b
    · refine ⟨by simpa using h1, fun e => by rw [h2 (by simpa using e)]⟩
    · refine ⟨by simp; omega, fun e => ?_⟩
      simp at e
      omega
    · simp at h0
    · refine ⟨by simpa using h1, fun e => by rw [h2 (by simpa using e)]⟩
theorem LeM.antisymm {l m : List Bool} (h : LeM l m) (k : LeM m l) : l = m := h.count.2 (Nat.le_antisymm h.count.1 k.count.1)
theorem getD_set (m : List Bool) (a : Nat) (v : Bool) (y : Nat) : (m.set a v).getD y false = if a = y ∧ a < m.length then v else m.getD y false := by
  rw [List.getD_eq_getElem?_getD, List.getD_eq_getElem?_getD, List.getElem?_set]
  by_cases h : a = y
  · subst h
    by_cases h2 : a < m.length
    · simp [h2]
    · simp [h2]
  · simp [h]
theorem setM_le (m : List Bool) (a b : Nat) : LeM m (setM m a b) := by
  refine ⟨by simp [setM], fun y h => ?_⟩
  unfold setM
  rw [getD_set]
  split
  · rename_i h1
    rw [h1.1, h]; rfl
  · exact h
theorem stepM_le (m : List Bool) (r : Nat × Nat) : LeM m (stepM m r) := (setM_le ..).trans (setM_le ..)
theorem scanM_le (rs : List (Nat × Nat)) (m : List Bool) {j k : Nat} (h : j ≤ k) : LeM (scanM rs m j) (scanM rs m k) := by
  induction k with
  | zero => rw [show j = 0 by omega]; exact LeM.refl _
  | succ k ih =>
    rcases Nat.lt_or_ge j (k + 1) with h1 | h1
    · exact (ih (by omega)).trans (stepM_le ..)
    · rw [show j = k + 1 by omega]; exact LeM.refl _
theorem passM_le (rs : List (Nat × Nat)) (n : Nat) {i j : Nat} (h : i ≤ j) : LeM (passM rs n i) (passM rs n j) := by
  induction j with
  | zero => rw [show i = 0 by omega]; exact LeM.refl _
  | succ j ih =>
    rcases Nat.lt_or_ge i (j + 1) with h1 | h1
    · exact (ih (by omega)).trans (scanM_le rs (passM rs n j) (Nat.zero_le _))
    · rw [show i = j + 1 by omega]; exact LeM.refl _
theorem passM_len (rs : List (Nat × Nat)) (n j : Nat) : (passM rs n j).length = n := by
  rw [← (passM_le rs n (Nat.zero_le j)).1]
  simp [passM]
theorem scanM_len (rs : List (Nat × Nat)) (m : List Bool) (k : Nat) : (scanM rs m k).length = m.length := (scanM_le rs m (Nat.zero_le k)).1.symm
/-- A pass that marks nothing new: the marks are closed. -/
theorem scanM_closed {rs : List (Nat × Nat)} {m : List Bool} (h : scanM rs m rs.length = m) {k : Nat} (hk : k < rs.length) {a b : Nat} (hr : rs.getD k (0, 0) = (a, b)) (ha : a < m.length) (hb : b < m.length) :
    m.getD a false = m.getD b false := by
  have e1 : scanM rs m k = m := LeM.antisymm (by have := scanM_le rs m (show k ≤ rs.length by omega); rw [h] at this; exact this) (scanM_le rs m (Nat.zero_le k))
  have e2 : stepM m (a, b) = m := by
    refine LeM.antisymm ?_ (stepM_le ..)
    have h1 := scanM_le rs m (show k + 1 ≤ rs.length by omega)
    rw [h] at h1
    have h2 : scanM rs m (k + 1) = stepM (scanM rs m k) (rs.getD k (0, 0)) := rfl
    rw [h2, e1, hr] at h1
    exact h1
  have e3 : setM m a b = m := LeM.antisymm (by have h1 : LeM (setM m a b) (stepM m (a, b)) := setM_le ..; rw [e2] at h1; exact h1) (setM_le ..)
  have e4 : setM m b a = m := by
    have h1 : stepM m (a, b) = setM (setM m a b) b a := rfl
    rw [e2, e3] at h1
    exact h1.symm
  have f3 := congrArg (fun x => x.getD a false) e3
  have f4 := congrArg (fun x => x.getD b false) e4
  simp only [setM] at f3 f4
  rw [getD_set, if_pos ⟨rfl, ha⟩] at f3
  rw [getD_set, if_pos ⟨rfl, hb⟩] at f4
  cases h1 : m.getD a false <;> cases h2 : m.getD b false <;> rw [h1, h2] at f3 f4 <;> simp_all
section
variable {rs : List (Nat × Nat)} {n : Nat} (hn : 0 < n) (hrs : ∀ k, k < rs.length → (rs.getD k (0, 0)).1 < n ∧ (rs.getD k (0, 0)).2 < n)
include hn hrs
theorem passM_zero (j : Nat) : (passM rs n j).getD 0 false = true := by
  refine (passM_le rs n (Nat.zero_le j)).2 0 ?_
  show ((List.replicate n false).set 0 true).getD 0 false = true
  rw [getD_set, if_pos ⟨rfl, by simpa using hn⟩]
theorem setM_rch {m : List Bool} (h : ∀ y, m.getD y false = true → Rch rs (-1) 0 y) {k a b : Nat} (hk : k < rs.length) (hr : rs.getD k (0, 0) = (a, b) ∨ rs.getD k (0, 0) = (b, a)) : ∀ y, (setM m a b).getD y false = true → Rch rs (-1) 0 y := by
  intro y hy
  unfold setM at hy
  rw [getD_set] at hy
  split at hy
  · rename_i h1
    rw [Bool.or_eq_true] at hy
    rcases hy with h2 | h2
    · exact h1.1 ▸ h a h2
    · rw [← h1.1]
      rcases hr with h3 | h3
      · exact .bwd (h b h2) hk (by omega) h3
      · exact .fwd (h b h2) hk (by omega) h3
  · exact h y hy
theorem scanM_rch {m : List Bool} (h : ∀ y, m.getD y false = true → Rch rs (-1) 0 y) : ∀ k, k ≤ rs.length → ∀ y, (scanM rs m k).getD y false = true → Rch rs (-1) 0 y
  | 0, _, y, hy => h y hy
  | k + 1, hk, y, hy => by
    obtain ⟨a, b, hr⟩ : ∃ a b, rs.getD k (0, 0) = (a, b) := ⟨_, _, rfl⟩
    have hy' : (setM (setM (scanM rs m k) (rs.getD k (0, 0)).1 (rs.getD k (0, 0)).2) (rs.getD k (0, 0)).2 (rs.getD k (0, 0)).1).getD y false = true := hy
    rw [hr] at hy'
    exact setM_rch hn hrs (setM_rch hn hrs (scanM_rch h k (by omega)) (by omega) (.inl hr)) (by omega) (.inr hr) y hy'
theorem passM_rch : ∀ j y, (passM rs n j).getD y false = true → Rch rs (-1) 0 y
  | 0, y, hy => by
    have hy' : ((List.replicate n false).set 0 true).getD y false = true := hy
    rw [getD_set] at hy'
    split at hy'
    · rename_i h; rw [← h.1]; exact .base
    · rw [List.getD_eq_getElem?_getD, List.getElem?_replicate] at hy'
      split at hy' <;> simp at hy'
  | j + 1, y, hy => scanM_rch hn hrs (passM_rch j) _ (Nat.le_refl _) y hy
theorem passM_stops : ∃ j, j < n ∧ passM rs n (j + 1) = passM rs n j := by
  refine Decidable.byContradiction fun hne => ?_
  have key : ∀ j, j ≤ n → j + 1 ≤ (passM rs n j).count true := by
    intro j
    induction j with
    | zero =>
      intro _
      have h1 : true ∈ passM rs n 0 := by
        have h2 := passM_zero hn hrs 0
        rw [List.getD_eq_getElem?_getD, List.getElem?_eq_getElem (by rw [passM_len]; exact hn)] at h2
        simp only [Option.getD_some] at h2
        rw [← h2]
        exact List.getElem_mem _
      exact List.count_pos_iff.2 h1
    | succ j ih =>
      intro hj
      have h1 := ih (by omega)
      have h2 := (passM_le rs n (show j ≤ j + 1 by omega)).count
      rcases Nat.lt_or_eq_of_le h2.1 with h3 | h3
      · omega
      · exact absurd ⟨j, by omega, (h2.2 h3).symm⟩ hne
  have h1 := key n (Nat.le_refl _)
  have h2 : (passM rs n n).count true ≤ (passM rs n n).length := List.count_le_length
  rw [passM_len] at h2
  omega
/-- What is marked in the end is what can be reached. -/
theorem passM_all (y : Nat) : (passM rs n n).getD y false = true ↔ Rch rs (-1) 0 y := by
  refine ⟨passM_rch hn hrs n y, fun h => ?_⟩
  obtain ⟨j, hj, he⟩ := passM_stops hn hrs
  have hcl : ∀ {k : Nat}, k < rs.length → ∀ {a b : Nat}, rs.getD k (0, 0) = (a, b) → (passM rs n j).getD a false = (passM rs n j).getD b false := by
    intro k hk a b hr
    have h1 := hrs k hk
    rw [hr] at h1
    exact scanM_closed he hk hr (by rw [passM_len]; exact h1.1) (by rw [passM_len]; exact h1.2)
  refine (passM_le rs n (show j ≤ n by omega)).2 y ?_
  induction h with
  | base => exact passM_zero hn hrs j
  | fwd _ hk _ hr ih => rw [← hcl hk hr]; exact ih
  | bwd _ hk _ hr ih => rw [hcl hk hr]; exact ih
/-- The two ways to look whether the runs are a tree agree. -/
theorem tree_same {i : Nat} (hi : (stR rs (-1) 0 i).length ≤ i) : (stR rs (-1) 0 i).length = n ↔ ∀ y, y < n → (passM rs n n).getD y false = true := by
  rw [stR_full hn hrs hi]
  exact ⟨fun h y hy => (passM_all hn hrs y).2 (h y hy), fun h y hy => (passM_all hn hrs y).1 (h y hy)⟩
end
end Go.Proofs.Ytmabfnddedffoaa
/- Looms, and which error one has. Plain. -/
namespace Go.Proofs.Ytmabfnddedffoaa
set_option linter.unusedVariables false
set_option linter.unusedSimpArgs false
structure Sp where
  x : Int
  y : Int
  z : Int
def Sp.o : Sp := ⟨0, 0, 0⟩
structure Ru where
  a : Int
  b : Int
  len : Int
  room : Int
def Ru.o : Ru := ⟨0, 0, 0, 0⟩
structure Pl where
  name : ByteArray
  spot : Int
  cav : Int
def Pl.o : Pl := ⟨ByteArray.empty, 0, 0⟩
structure Wi where
  name : ByteArray
  fp : Int
  fc : Int
  tp : Int
  tc : Int
  size : Int
  form : List Int
def Wi.o : Wi := ⟨ByteArray.empty, 0, 0, 0, 0, 0, []⟩
/-- A loom. -/
structure Lo where
  m : Mo
  ss : List Sp
  us : List Ru
  ps : List Pl
  ws : List Wi

/-- A name of a plug or wire: one to eight small letters. -/
def lowB (l : List UInt8) : Bool := decide (1 ≤ l.length) && decide (l.length ≤ 8) && l.all smN
def btw (n lo hi : Int) : Bool := decide (lo ≤ n) && decide (n ≤ hi)
theorem btw_iff {n lo hi : Int} : btw n lo hi = true ↔ lo ≤ n ∧ n ≤ hi := by simp [btw]
def Sp.ok (s : Sp) : Bool := btw s.x (-100000) 100000 && btw s.y (-100000) 100000 && btw s.z (-100000) 100000
def sqS (a b : Sp) : Int := (a.x - b.x) * (a.x - b.x) + (a.y - b.y) * (a.y - b.y) + (a.z - b.z) * (a.z - b.z)
def Ru.ok (ss : List Sp) (r : Ru) : Bool :=
  btw r.a 0 ((ss.length : Int) - 1) && btw r.b 0 ((ss.length : Int) - 1) && decide (r.a ≠ r.b) && btw r.len 1 1000000 && btw r.room 0 1000000 && decide (sqS (ss.getD r.a.toNat Sp.o) (ss.getD r.b.toNat Sp.o) ≤ r.len * r.len)
/-- The runs, as pairs of spots. -/
def Lo.rs (l : Lo) : List (Nat × Nat) := l.us.map fun r => (r.a.toNat, r.b.toNat)
def bytes (s : ByteArray) : List UInt8 := s.data.toList
def plOk (l : Lo) (i : Nat) : Bool :=
  lowB (bytes (l.ps.getD i Pl.o).name) && !((l.ps.take i).any fun q => bytes q.name == bytes (l.ps.getD i Pl.o).name) && btw (l.ps.getD i Pl.o).spot 0 ((l.ss.length : Int) - 1) && btw (l.ps.getD i Pl.o).cav 1 40
def pinOk (l : Lo) (p c : Int) : Bool := btw p 0 ((l.ps.length : Int) - 1) && btw c 0 ((l.ps.getD p.toNat Pl.o).cav - 1)
def wiOk (l : Lo) (i : Nat) : Bool :=
  lowB (bytes (l.ws.getD i Wi.o).name) && !((l.ws.take i).any fun q => bytes q.name == bytes (l.ws.getD i Wi.o).name) && pinOk l (l.ws.getD i Wi.o).fp (l.ws.getD i Wi.o).fc && pinOk l (l.ws.getD i Wi.o).tp (l.ws.getD i Wi.o).tc &&
    !(decide ((l.ws.getD i Wi.o).fp = (l.ws.getD i Wi.o).tp) && decide ((l.ws.getD i Wi.o).fc = (l.ws.getD i Wi.o).tc)) && btw (l.ws.getD i Wi.o).size 1 10000
/-- The error of the wire with a number. -/
def wiErr (l : Lo) (i : Nat) : Int := if wiOk l i = false then 63 else if validF l.m.opts.length (l.ws.getD i Wi.o).form = false then 11 else 0
/-- The first error of the first wires. -/
def wiresErr (l : Lo) : Nat → Int
  | 0 => 0
  | i + 1 => if wiresErr l i ≠ 0 then wiresErr l i else wiErr l i
theorem wiresErr_at {l : Lo} {i : Nat} (h : ∀ j, j < i → wiErr l j = 0) : wiresErr l i = 0 := by
  induction i with
  | zero => rfl
  | succ i ih =>
    have h1 := ih fun j hj => h j (by omega)
    show (if wiresErr l i ≠ 0 then _ else _) = _
    rw [if_neg (by rw [h1]; simp), h i (by omega)]
theorem wiresErr_stays {l : Lo} {i n : Nat} (h : wiresErr l i ≠ 0) (hn : i ≤ n) : wiresErr l n = wiresErr l i := by
  induction n with
  | zero => rw [show i = 0 by omega]
  | succ n ih =>
    rcases Nat.lt_or_ge i (n + 1) with h1 | h1
    · have h2 := ih (by omega)
      show (if wiresErr l n ≠ 0 then _ else _) = _
      rw [h2, if_pos h]
    · rw [show i = n + 1 by omega]
theorem wiresErr_first {l : Lo} {i n : Nat} (h : ∀ j, j < i → wiErr l j = 0) (hi : wiErr l i ≠ 0) (hn : i < n) : wiresErr l n = wiErr l i := by
  have h1 : wiresErr l (i + 1) = wiErr l i := by
    show (if wiresErr l i ≠ 0 then _ else _) = _
    rw [wiresErr_at h, if_neg (by simp)]
  rw [wiresErr_stays (i := i + 1) (by rw [h1]; exact hi) (by omega), h1]
/-- Whether the runs are a tree, as the program looks. -/
def Lo.full (l : Lo) : Bool := decide ((stR l.rs (-1) 0 l.ss.length).length = l.ss.length)
def Lo.many (l : Lo) : Bool := decide (40 < l.ss.length) || decide (40 < l.us.length) || decide (30 < l.ps.length) || decide (60 < l.ws.length)
def Lo.err (l : Lo) : Int :=
  if l.m.err ≠ 0 then l.m.err else if l.many then 2 else if l.ss.all Sp.ok = false then 60 else if l.ss.length = 0 ∨ l.us.length + 1 ≠ l.ss.length then 61 else if l.us.all (Ru.ok l.ss) = false then 61 else if l.full = false then 61
  else if (List.range l.ps.length).all (plOk l) = false then 62 else wiresErr l l.ws.length
/-- A loom without an error. -/
structure LoOk (l : Lo) : Prop where
  m : l.m.err = 0
  s40 : l.ss.length ≤ 40
  u40 : l.us.length ≤ 40
  p30 : l.ps.length ≤ 30
  w60 : l.ws.length ≤ 60
  ss : ∀ x ∈ l.ss, x.ok = true
  us : ∀ x ∈ l.us, x.ok l.ss = true
  tree : TreeR l.rs l.ss.length
  ps : ∀ i, i < l.ps.length → plOk l i = true
  ws : ∀ i, i < l.ws.length → wiErr l i = 0
theorem rs_getD (l : Lo) {k : Nat} (hk : k < l.us.length) : l.rs.getD k (0, 0) = ((l.us.getD k Ru.o).a.toNat, (l.us.getD k Ru.o).b.toNat) := by
  simp [Lo.rs, hk]
theorem rs_len (l : Lo) : l.rs.length = l.us.length := by simp [Lo.rs]
theorem rs_lt {l : Lo} (h : ∀ x ∈ l.us, x.ok l.ss = true) : ∀ k, k < l.rs.length → (l.rs.getD k (0, 0)).1 < l.ss.length ∧ (l.rs.getD k (0, 0)).2 < l.ss.length := by
  intro k hk
  rw [rs_len] at hk
  rw [rs_getD l hk]
  have h1 := h (l.us.getD k Ru.o) (by rw [List.getD_eq_getElem?_getD, List.getElem?_eq_getElem hk]; exact List.getElem_mem hk)
  unfold Ru.ok at h1
  simp only [Bool.and_eq_true, btw_iff] at h1
  obtain ⟨⟨⟨⟨⟨h2, h3⟩, _⟩, _⟩, _⟩, _⟩ := h1
  constructor <;> simp only <;> omega
theorem wiresErr_zero {l : Lo} : ∀ {n : Nat}, wiresErr l n = 0 → ∀ i, i < n → wiErr l i = 0
  | 0, _, i, hi => by omega
  | n + 1, h, i, hi => by
    have h' : (if wiresErr l n ≠ 0 then wiresErr l n else wiErr l n) = 0 := h
    by_cases h1 : wiresErr l n = 0
    · rw [if_neg (by simp [h1])] at h'
      rcases Nat.lt_or_ge i n with h2 | h2
      · exact wiresErr_zero h1 i h2
      · rw [show i = n by omega]; exact h'
    · rw [if_pos h1] at h'
      exact absurd h' h1
theorem Lo.err_ok {l : Lo} (h : l.err = 0) : LoOk l := by
  unfold Lo.err at h
  by_cases h1 : l.m.err = 0
  · rw [if_neg (by simp [h1])] at h
    by_cases h2 : l.many = true
    · rw [if_pos h2] at h; omega
    rw [if_neg h2] at h
    by_cases h3 : l.ss.all Sp.ok = false
    · rw [if_pos h3] at h; omega
    rw [if_neg h3] at h
    by_cases h4 : l.ss.length = 0 ∨ l.us.length + 1 ≠ l.ss.length
    · rw [if_pos h4] at h; omega
    rw [if_neg h4] at h
    by_cases h5 : l.us.all (Ru.ok l.ss) = false
    · rw [if_pos h5] at h; omega
    rw [if_neg h5] at h
    by_cases h6 : l.full = false
    · rw [if_pos h6] at h; omega
    rw [if_neg h6] at h
    by_cases h7 : (List.range l.ps.length).all (plOk l) = false
    · rw [if_pos h7] at h; omega
    rw [if_neg h7] at h
    simp only [Lo.many, Bool.or_eq_true, decide_eq_true_eq, not_or] at h2
    have hu : ∀ x ∈ l.us, x.ok l.ss = true := List.all_eq_true.1 (by simpa using h5)
    have hn : 0 < l.ss.length := by omega
    have hf : (stR l.rs (-1) 0 l.ss.length).length = l.ss.length := by simpa [Lo.full] using h6
    exact ⟨h1, by omega, by omega, by omega, by omega, List.all_eq_true.1 (by simpa using h3), hu,
      ⟨by rw [rs_len]; omega, rs_lt hu, (stR_full hn (rs_lt hu) (stR_ends hn (rs_lt hu))).1 hf⟩,
      fun i hi => by have := List.all_eq_true.1 (show (List.range l.ps.length).all (plOk l) = true by simpa using h7) i (by simpa using hi); exact this, wiresErr_zero h⟩
  · rw [if_pos h1] at h
    exact absurd h h1
/-- The reference's marks say the same. -/
theorem full_marks {l : Lo} (hu : ∀ x ∈ l.us, x.ok l.ss = true) (hn : 0 < l.ss.length) : l.full = (List.range l.ss.length).all fun y => (passM l.rs l.ss.length l.ss.length).getD y false := by
  have h := tree_same hn (rs_lt hu) (stR_ends (w := -1) hn (rs_lt hu))
  unfold Lo.full
  by_cases h1 : (stR l.rs (-1) 0 l.ss.length).length = l.ss.length
  · rw [decide_eq_true h1]
    exact (List.all_eq_true.2 fun y hy => h.1 h1 y (by simpa using hy)).symm
  · rw [decide_eq_false h1]
    symm
    rw [← Bool.not_eq_true, List.all_eq_true]
    exact fun q => h1 (h.2 fun y hy => q y (by simpa using hy))
end Go.Proofs.Ytmabfnddedffoaa
/- A loom in memory; a loom's argument opened: no condition. -/
namespace Go.Proofs.Ytmabfnddedffoaa
open Go.Joins Go.ChangeShapes Go.WideShapes Go.ChangeAt Go.RowKit Go.Deep
set_option maxRecDepth 100000
set_option linter.unusedVariables false
set_option linter.unusedSimpArgs false
def spC (s : Sp) : Nat → Value
  | 0 => .int .i64 s.x
  | 1 => .int .i64 s.y
  | _ => .int .i64 s.z
def ruC (s : Ru) : Nat → Value
  | 0 => .int .i64 s.a
  | 1 => .int .i64 s.b
  | 2 => .int .i64 s.len
  | _ => .int .i64 s.room
def plC (s : Pl) : Nat → Value
  | 0 => .string s.name
  | 1 => .int .i64 s.spot
  | _ => .int .i64 s.cav
def wiC (s : Wi) (v : Value) : Nat → Value
  | 0 => .string s.name
  | 1 => .int .i64 s.fp
  | 2 => .int .i64 s.fc
  | 3 => .int .i64 s.tp
  | 4 => .int .i64 s.tc
  | 5 => .int .i64 s.size
  | _ => v
def Sps (w : World) (B : Nat) (v : Value) (l : List Sp) : Prop := Sl w B 3 v l.length fun i j => spC (l.getD i Sp.o) j
def Rus (w : World) (B : Nat) (v : Value) (l : List Ru) : Prop := Sl w B 4 v l.length fun i j => ruC (l.getD i Ru.o) j
def Pls (w : World) (B : Nat) (v : Value) (l : List Pl) : Prop := Sl w B 3 v l.length fun i j => plC (l.getD i Pl.o) j
def Wis (w : World) (B : Nat) (v : Value) (l : List Wi) : Prop := ∃ fv : Nat → Value, Sl w B 7 v l.length (fun i j => wiC (l.getD i Wi.o) (fv i) j) ∧ ∀ i, i < l.length → Ints w B (fv i) (l.getD i Wi.o).form
structure LoAt (w : World) (B : Nat) (ov rv sv uv pv wv : Value) (l : Lo) : Prop where
  m : MoAt w B ov rv l.m
  s : Sps w B sv l.ss
  u : Rus w B uv l.us
  p : Pls w B pv l.ps
  w : Wis w B wv l.ws
/-- What the numbers and lengths of an argument keep to. -/
structure SizedL (l : Lo) : Prop where
  m : SizedM l.m
  s : l.ss.length ≤ maxLen
  u : l.us.length ≤ maxLen
  p : l.ps.length ≤ maxLen
  w : l.ws.length ≤ maxLen
  pn : ∀ x ∈ l.ps, x.name.size ≤ maxLen
  wn : ∀ x ∈ l.ws, x.name.size ≤ maxLen ∧ x.form.length ≤ maxLen
section
variable {H : Type} {enc : TypeId × Value → H} {W : World} {base b0 : Nat} {r : Reach} {spare : Nat → Bool} {held : Bool} {v : Value} {d : DataW H} {p : List MemPlace}
theorem cellsSp : Try.prog.cellsOf 97 = 3 := by kernel_rfl
theorem cellsRu : Try.prog.cellsOf 85 = 4 := by kernel_rfl
theorem cellsPl : Try.prog.cellsOf 63 = 3 := by kernel_rfl
theorem cellsPin : Try.prog.cellsOf 65 = 2 := by kernel_rfl
theorem cellsWi : Try.prog.cellsOf 68 = 7 := by kernel_rfl
theorem cellsMo : Try.prog.cellsOf 25 = 2 := by kernel_rfl
theorem cellsLo : Try.prog.cellsOf 31 = 6 := by kernel_rfl
theorem str_cell {n : Nat} {c : Value} {y : DataW H × List MemPlace} (h : DataW.trod enc Try.prog W base spare held n 9 [c] = some y) : ∃ s, c = .string s ∧ s.size ≤ maxLen := by
  obtain ⟨s, h1, _, h3⟩ := DataW.trod_string Try.underlying9 h
  simp at h1
  exact ⟨s, h1, h3⟩
theorem all_of {α : Type} {z : α} {R : α → Prop} {xs : List α} (h : ∀ i, i < xs.length → R (xs.getD i z)) : ∀ x ∈ xs, R x := by
  intro x hx
  obtain ⟨i, hi, rfl⟩ := List.mem_iff_getElem.1 hx
  have := h i hi
  rwa [List.getD_eq_getElem?_getD, List.getElem?_eq_getElem hi, Option.getD_some] at this
theorem spots_cell {n : Nat} {c : Value} {y : DataW H × List MemPlace} (h : DataW.trod enc Try.prog W base spare held n 26 [c] = some y) :
    ∃ l : List Sp, Sps W W.heap.size c l ∧ l.length ≤ maxLen ∧ ∀ x ∈ l, I64 x.x ∧ I64 x.y ∧ I64 x.z := by
  obtain ⟨xs, hsl, hl, hR⟩ := open_rows (α := Sp) Sp.o (fun x j => spC x j) (fun x => I64 x.x ∧ I64 x.y ∧ I64 x.z) Try.underlying26 cellsSp (by omega) (by
    intro n cs' y hlen ht
    match cs', hlen with
    | [c0, c1, c2], _ =>
      obtain ⟨xs, n', _, _, _, hlen, hf⟩ := DataW.trod_struct Try.underlying97 ht
      have g0 := hf 0 _ rfl
      have g1 := hf 1 _ rfl
      have g2 := hf 2 _ rfl
      match xs, hlen with
      | [y0, y1, y2], _ =>
        obtain ⟨a0, rfl, i0⟩ := int_cell (y := y0) (by simpa [cellsInt] using g0)
        obtain ⟨a1, rfl, i1⟩ := int_cell (y := y1) (by simpa [cellsInt] using g1)
        obtain ⟨a2, rfl, i2⟩ := int_cell (y := y2) (by simpa [cellsInt] using g2)
        refine ⟨⟨a0, a1, a2⟩, fun j hj => ?_, i0, i1, i2⟩
        match j, hj with
        | 0, _ => rfl
        | 1, _ => rfl
        | 2, _ => rfl) h
  exact ⟨xs, hsl, hl, all_of hR⟩
theorem runs_cell {n : Nat} {c : Value} {y : DataW H × List MemPlace} (h : DataW.trod enc Try.prog W base spare held n 27 [c] = some y) :
    ∃ l : List Ru, Rus W W.heap.size c l ∧ l.length ≤ maxLen ∧ ∀ x ∈ l, I64 x.a ∧ I64 x.b ∧ I64 x.len ∧ I64 x.room := by
  obtain ⟨xs, hsl, hl, hR⟩ := open_rows (α := Ru) Ru.o (fun x j => ruC x j) (fun x => I64 x.a ∧ I64 x.b ∧ I64 x.len ∧ I64 x.room) Try.underlying27 cellsRu (by omega) (by
    intro n cs' y hlen ht
    match cs', hlen with
    | [c0, c1, c2, c3], _ =>
      obtain ⟨xs, n', _, _, _, hlen, hf⟩ := DataW.trod_struct Try.underlying85 ht
      have g0 := hf 0 _ rfl
      have g1 := hf 1 _ rfl
      have g2 := hf 2 _ rfl
      have g3 := hf 3 _ rfl
      match xs, hlen with
      | [y0, y1, y2, y3], _ =>
        obtain ⟨a0, rfl, i0⟩ := int_cell (y := y0) (by simpa [cellsInt] using g0)
        obtain ⟨a1, rfl, i1⟩ := int_cell (y := y1) (by simpa [cellsInt] using g1)
        obtain ⟨a2, rfl, i2⟩ := int_cell (y := y2) (by simpa [cellsInt] using g2)
        obtain ⟨a3, rfl, i3⟩ := int_cell (y := y3) (by simpa [cellsInt] using g3)
        refine ⟨⟨a0, a1, a2, a3⟩, fun j hj => ?_, i0, i1, i2, i3⟩
        match j, hj with
        | 0, _ => rfl
        | 1, _ => rfl
        | 2, _ => rfl
        | 3, _ => rfl) h
  exact ⟨xs, hsl, hl, all_of hR⟩
theorem plugs_cell {n : Nat} {c : Value} {y : DataW H × List MemPlace} (h : DataW.trod enc Try.prog W base spare held n 28 [c] = some y) :
    ∃ l : List Pl, Pls W W.heap.size c l ∧ l.length ≤ maxLen ∧ ∀ x ∈ l, x.name.size ≤ maxLen ∧ I64 x.spot ∧ I64 x.cav := by
  obtain ⟨xs, hsl, hl, hR⟩ := open_rows (α := Pl) Pl.o (fun x j => plC x j) (fun x => x.name.size ≤ maxLen ∧ I64 x.spot ∧ I64 x.cav) Try.underlying28 cellsPl (by omega) (by
    intro n cs' y hlen ht
    match cs', hlen with
    | [c0, c1, c2], _ =>
      obtain ⟨xs, n', _, _, _, hlen, hf⟩ := DataW.trod_struct Try.underlying63 ht
      have g0 := hf 0 _ rfl
      have g1 := hf 1 _ rfl
      have g2 := hf 2 _ rfl
      match xs, hlen with
      | [y0, y1, y2], _ =>
        obtain ⟨a0, rfl, i0⟩ := str_cell (y := y0) (by simpa [cellsStr] using g0)
        obtain ⟨a1, rfl, i1⟩ := int_cell (y := y1) (by simpa [cellsStr, cellsInt] using g1)
        obtain ⟨a2, rfl, i2⟩ := int_cell (y := y2) (by simpa [cellsStr, cellsInt] using g2)
        refine ⟨⟨a0, a1, a2⟩, fun j hj => ?_, i0, i1, i2⟩
        match j, hj with
        | 0, _ => rfl
        | 1, _ => rfl
        | 2, _ => rfl) h
  exact ⟨xs, hsl, hl, all_of hR⟩
theorem pin_cells {n : Nat} {c0 c1 : Value} {y : DataW H × List MemPlace} (h : DataW.trod enc Try.prog W base spare held n 65 [c0, c1] = some y) : ∃ a b, c0 = .int .i64 a ∧ c1 = .int .i64 b ∧ I64 a ∧ I64 b := by
  obtain ⟨xs, n', _, _, _, hlen, hf⟩ := DataW.trod_struct Try.underlying65 h
  have g0 := hf 0 _ rfl
  have g1 := hf 1 _ rfl
  match xs, hlen with
  | [y0, y1], _ =>
    obtain ⟨a0, rfl, i0⟩ := int_cell (y := y0) (by simpa [cellsInt] using g0)
    obtain ⟨a1, rfl, i1⟩ := int_cell (y := y1) (by simpa [cellsInt] using g1)
    exact ⟨a0, a1, rfl, rfl, i0, i1⟩
theorem wires_cell {n : Nat} {c : Value} {y : DataW H × List MemPlace} (h : DataW.trod enc Try.prog W base spare held n 29 [c] = some y) :
    ∃ l : List Wi, Wis W W.heap.size c l ∧ l.length ≤ maxLen ∧ ∀ x ∈ l, x.name.size ≤ maxLen ∧ x.form.length ≤ maxLen ∧ I64 x.fp ∧ I64 x.fc ∧ I64 x.tp ∧ I64 x.tc ∧ I64 x.size ∧ ∀ u ∈ x.form, I64 u := by
  obtain ⟨xs, hsl, hl, hR⟩ := open_rows (α := Wi × Value) (Wi.o, .slice none 0 0) (fun x j => wiC x.1 x.2 j) (fun x => Ints W W.heap.size x.2 x.1.form ∧ x.1.name.size ≤ maxLen ∧ x.1.form.length ≤ maxLen ∧ I64 x.1.fp ∧ I64 x.1.fc ∧ I64 x.1.tp ∧ I64 x.1.tc ∧ I64 x.1.size ∧ ∀ u ∈ x.1.form, I64 u) Try.underlying29 cellsWi (by omega) (by
    intro n cs' y hlen ht
    match cs', hlen with
    | [c0, c1, c2, c3, c4, c5, c6], _ =>
      obtain ⟨xs, n', _, _, _, hlen, hf⟩ := DataW.trod_struct Try.underlying68 ht
      have g0 := hf 0 _ rfl
      have g1 := hf 1 _ rfl
      have g2 := hf 2 _ rfl
      have g3 := hf 3 _ rfl
      have g4 := hf 4 _ rfl
      match xs, hlen with
      | [y0, y1, y2, y3, y4], _ =>
        obtain ⟨a0, rfl, i0⟩ := str_cell (y := y0) (by simpa [cellsStr] using g0)
        obtain ⟨a1, a2, rfl, rfl, i1, i2⟩ := pin_cells (y := y1) (by simpa [cellsStr, cellsPin] using g1)
        obtain ⟨a3, a4, rfl, rfl, i3, i4⟩ := pin_cells (y := y2) (by simpa [cellsStr, cellsPin] using g2)
        obtain ⟨a5, rfl, i5⟩ := int_cell (y := y3) (by simpa [cellsStr, cellsPin, cellsInt] using g3)
        obtain ⟨f, hf, hfl, hfi⟩ := ints_cell (y := y4) Try.underlying66 (by simpa [cellsStr, cellsPin, cellsInt, cellsFo] using g4)
        refine ⟨(⟨a0, a1, a2, a3, a4, a5, f⟩, c6), fun j hj => ?_, hf, i0, hfl, i1, i2, i3, i4, i5, hfi⟩
        match j, hj with
        | 0, _ => rfl
        | 1, _ => rfl
        | 2, _ => rfl
        | 3, _ => rfl
        | 4, _ => rfl
        | 5, _ => rfl
        | 6, _ => rfl) h
  have hg : ∀ i, i < xs.length → (xs.map (·.1)).getD i Wi.o = (xs.getD i (Wi.o, .slice none 0 0)).1 := fun i hi => by simp [hi]
  refine ⟨xs.map (·.1), ⟨fun i => (xs.getD i (Wi.o, .slice none 0 0)).2, ?_, fun i hi => ?_⟩, by simpa using hl, fun x hx => ?_⟩
  · rw [List.length_map]
    exact Sl.congr hsl fun i j hi hj => by rw [hg i hi]
  · rw [List.length_map] at hi
    rw [hg i hi]
    exact (hR i hi).1
  · obtain ⟨u, hu, rfl⟩ := List.mem_map.1 hx
    exact (all_of (R := fun x : Wi × Value => Ints W W.heap.size x.2 x.1.form ∧ x.1.name.size ≤ maxLen ∧ x.1.form.length ≤ maxLen ∧ I64 x.1.fp ∧ I64 x.1.fc ∧ I64 x.1.tp ∧ I64 x.1.tc ∧ I64 x.1.size ∧ ∀ u ∈ x.1.form, I64 u) hR u hu).2
theorem open_loom (hv : Value.okWide Try.prog W r b0 31 v) (h : DataW.Trod enc Try.prog W base spare held 31 v d p) :
    ∃ (ov rv sv uv pv wv : Value) (l : Lo), v = .agg #[ov, rv, sv, uv, pv, wv] ∧ LoAt W W.heap.size ov rv sv uv pv wv l ∧ SizedL l ∧ (∀ x ∈ l.ss, I64 x.x ∧ I64 x.y ∧ I64 x.z) ∧ (∀ x ∈ l.us, I64 x.a ∧ I64 x.b ∧ I64 x.len ∧ I64 x.room) ∧ (∀ x ∈ l.ps, I64 x.spot ∧ I64 x.cav) ∧
      ∀ x ∈ l.ws, I64 x.fp ∧ I64 x.fc ∧ I64 x.tp ∧ I64 x.tc ∧ I64 x.size := by
  obtain ⟨cs, rfl, hsz⟩ := okWide_struct Try.underlying31 hv
  obtain ⟨l⟩ := cs
  match l, hsz.trans cellsLo with
  | [c0, c1, c2, c3, c4, c5], _ =>
    obtain ⟨fuel, hf⟩ := h
    obtain ⟨xs, n, _, _, _, hlen, hg⟩ := DataW.trod_struct Try.underlying31 hf
    have g0 := hg 0 _ rfl
    have g1 := hg 1 _ rfl
    have g2 := hg 2 _ rfl
    have g3 := hg 3 _ rfl
    have g4 := hg 4 _ rfl
    match xs, hlen with
    | [y0, y1, y2, y3, y4], _ =>
      have m0 : DataW.trod enc Try.prog W base spare held n 25 [c0, c1] = some y0 := by simpa [Value.cells, cellsMo] using g0
      obtain ⟨xm, nm, _, _, _, hlm, hm⟩ := DataW.trod_struct Try.underlying25 m0
      have q0 := hm 0 _ rfl
      have q1 := hm 1 _ rfl
      match xm, hlm with
      | [z0, z1], _ =>
        obtain ⟨os, ho, hol, hos⟩ := strs_cell (y := z0) (c := c0) Try.underlying22 (by simpa [show Try.prog.cellsOf 22 = 1 by kernel_rfl] using q0)
        obtain ⟨fs, hfs, hfz⟩ := forms_cell (y := z1) (c := c1) Try.underlying23 (by simpa [show Try.prog.cellsOf 22 = 1 by kernel_rfl, show Try.prog.cellsOf 23 = 1 by kernel_rfl] using q1)
        obtain ⟨ss, hs, hsl, hsi⟩ := spots_cell (y := y1) (c := c2) (by simpa [Value.cells, cellsMo, show Try.prog.cellsOf 26 = 1 by kernel_rfl] using g1)
        obtain ⟨us, hu, hul, hui⟩ := runs_cell (y := y2) (c := c3) (by simpa [Value.cells, cellsMo, show Try.prog.cellsOf 26 = 1 by kernel_rfl, show Try.prog.cellsOf 27 = 1 by kernel_rfl] using g2)
        obtain ⟨ps, hp, hpl, hpi⟩ := plugs_cell (y := y3) (c := c4) (by simpa [Value.cells, cellsMo, show Try.prog.cellsOf 26 = 1 by kernel_rfl, show Try.prog.cellsOf 27 = 1 by kernel_rfl, show Try.prog.cellsOf 28 = 1 by kernel_rfl] using g3)
        obtain ⟨ws, hw, hwl, hwi⟩ := wires_cell (y := y4) (c := c5) (by simpa [Value.cells, cellsMo, show Try.prog.cellsOf 26 = 1 by kernel_rfl, show Try.prog.cellsOf 27 = 1 by kernel_rfl, show Try.prog.cellsOf 28 = 1 by kernel_rfl, show Try.prog.cellsOf 29 = 1 by kernel_rfl] using g4)
        exact ⟨c0, c1, c2, c3, c4, c5, ⟨⟨os, fs⟩, ss, us, ps, ws⟩, rfl, ⟨⟨ho, hfs⟩, hs, hu, hp, hw⟩, ⟨⟨hol, hos, hfz⟩, hsl, hul, hpl, hwl, fun x hx => (hpi x hx).1, fun x hx => ⟨(hwi x hx).1, (hwi x hx).2.1⟩⟩, hsi, hui, fun x hx => (hpi x hx).2,
          fun x hx => ⟨(hwi x hx).2.2.1, (hwi x hx).2.2.2.1, (hwi x hx).2.2.2.2.1, (hwi x hx).2.2.2.2.2.1, (hwi x hx).2.2.2.2.2.2.1⟩⟩
end
end Go.Proofs.Ytmabfnddedffoaa
/- The first error of a row; the list of what is reached stays. Plain. -/
namespace Go.Proofs.Ytmabfnddedffoaa
set_option linter.unusedVariables false
set_option linter.unusedSimpArgs false
/-- The first error of the first elements of a row. -/
def firstE (e : Nat → Int) : Nat → Int
  | 0 => 0
  | i + 1 => if firstE e i ≠ 0 then firstE e i else e i
theorem firstE_none {e : Nat → Int} {i : Nat} (h : ∀ j, j < i → e j = 0) : firstE e i = 0 := by
  induction i with
  | zero => rfl
  | succ i ih =>
    have h1 := ih fun j hj => h j (by omega)
    show (if firstE e i ≠ 0 then _ else _) = _
    rw [if_neg (by rw [h1]; simp), h i (by omega)]
theorem firstE_stays {e : Nat → Int} {i n : Nat} (h : firstE e i ≠ 0) (hn : i ≤ n) : firstE e n = firstE e i := by
  induction n with
  | zero => rw [show i = 0 by omega]
  | succ n ih =>
    rcases Nat.lt_or_ge i (n + 1) with h1 | h1
    · have h2 := ih (by omega)
      show (if firstE e n ≠ 0 then _ else _) = _
      rw [h2, if_pos h]
    · rw [show i = n + 1 by omega]
theorem firstE_at {e : Nat → Int} {i n : Nat} (h : ∀ j, j < i → e j = 0) (hi : e i ≠ 0) (hn : i < n) : firstE e n = e i := by
  have h1 : firstE e (i + 1) = e i := by
    show (if firstE e i ≠ 0 then _ else _) = _
    rw [firstE_none h, if_neg (by simp)]
  rw [firstE_stays (i := i + 1) (by rw [h1]; exact hi) (by omega), h1]
theorem firstE_wires (l : Lo) : ∀ n, firstE (wiErr l) n = wiresErr l n
  | 0 => rfl
  | n + 1 => by
    show (if firstE (wiErr l) n ≠ 0 then firstE (wiErr l) n else _) = (if wiresErr l n ≠ 0 then wiresErr l n else _)
    rw [firstE_wires l n]
theorem firstE_must (p : Nat → Bool) {c : Int} (hc : c ≠ 0) : ∀ n, firstE (fun i => if p i then 0 else c) n = if (List.range n).all p = false then c else 0
  | 0 => rfl
  | n + 1 => by
    show (if firstE (fun i => if p i then 0 else c) n ≠ 0 then firstE (fun i => if p i then 0 else c) n else if p n then 0 else c) = _
    rw [firstE_must p hc n, List.range_succ, List.all_append]
    cases h : (List.range n).all p with
    | false => simp [hc]
    | true => cases h2 : p n <;> simp [h2]
theorem all_range {α : Type} (z : α) (p : α → Bool) (l : List α) : (List.range l.length).all (fun i => p (l.getD i z)) = l.all p := by
  rw [Bool.eq_iff_iff, List.all_eq_true, List.all_eq_true]
  constructor
  · intro h x hx
    obtain ⟨i, hi, rfl⟩ := List.mem_iff_getElem.1 hx
    have := h i (by simpa using hi)
    simpa [hi] using this
  · intro h i hi
    have hi' : i < l.length := by simpa using hi
    simp only [List.getD_eq_getElem?_getD, List.getElem?_eq_getElem hi', Option.getD_some]
    exact h _ (List.getElem_mem hi')
theorem stR_stays {rs : List (Nat × Nat)} {w : Int} {s i : Nat} (h : (stR rs w s i).length ≤ i) : ∀ j, i ≤ j → stR rs w s j = stR rs w s i := by
  intro j hj
  induction j with
  | zero => rw [show i = 0 by omega]
  | succ j ih =>
    rcases Nat.lt_or_ge i (j + 1) with h1 | h1
    · have h2 := ih (by omega)
      show (if j < (stR rs w s j).length then _ else stR rs w s j) = _
      rw [h2, if_neg (by omega)]
    · rw [show i = j + 1 by omega]
theorem stR_end {rs : List (Nat × Nat)} {w : Int} {s i n : Nat} (hs : s < n) (hrs : ∀ k, k < rs.length → (rs.getD k (0, 0)).1 < n ∧ (rs.getD k (0, 0)).2 < n) (h : (stR rs w s i).length ≤ i) (hi : i ≤ (stR rs w s i).length) : stR rs w s i = stR rs w s n :=
  (stR_stays h n (Nat.le_trans hi (stR_len hs hrs i))).symm
end Go.Proofs.Ytmabfnddedffoaa
/- Looms in memory: the cells, small functions: no condition. -/
namespace Go.Proofs.Ytmabfnddedffoaa
open Go.RowKit
set_option linter.unusedVariables false
set_option linter.unusedSimpArgs false
/-- A loom in memory, by the addresses and rooms of its slices. -/
def LoA (w : World) (B : Nat) (A0 A1 A2 A3 A4 A5 : Option Addr) (q0 q1 q2 q3 q4 q5 : Nat) (l : Lo) : Prop := LoAt w B (.slice A0 l.m.opts.length q0) (.slice A1 l.m.rules.length q1) (.slice A2 l.ss.length q2) (.slice A3 l.us.length q3) (.slice A4 l.ps.length q4) (.slice A5 l.ws.length q5) l
def LoBox (w : World) (b : Nat) (A0 A1 A2 A3 A4 A5 : Option Addr) (q0 q1 q2 q3 q4 q5 : Nat) (l : Lo) : Prop := w.heap[b]? = some (.cells #[.slice A0 l.m.opts.length q0, .slice A1 l.m.rules.length q1, .slice A2 l.ss.length q2, .slice A3 l.us.length q3, .slice A4 l.ps.length q4, .slice A5 l.ws.length q5] 31 (0, 0))
theorem LoAt.form {w : World} {B : Nat} {ov rv sv uv pv wv : Value} {l : Lo} (h : LoAt w B ov rv sv uv pv wv l) : ∃ (A0 A1 A2 A3 A4 A5 : Option Addr) (q0 q1 q2 q3 q4 q5 : Nat), ov = .slice A0 l.m.opts.length q0 ∧ rv = .slice A1 l.m.rules.length q1 ∧ sv = .slice A2 l.ss.length q2 ∧ uv = .slice A3 l.us.length q3 ∧ pv = .slice A4 l.ps.length q4 ∧ wv = .slice A5 l.ws.length q5 ∧ LoA w B A0 A1 A2 A3 A4 A5 q0 q1 q2 q3 q4 q5 l := by
  obtain ⟨A0, q0, rfl⟩ := Sl.form h.m.o
  obtain ⟨A1, q1, rfl⟩ := h.m.r.form
  obtain ⟨A2, q2, rfl⟩ := Sl.form h.s
  obtain ⟨A3, q3, rfl⟩ := Sl.form h.u
  obtain ⟨A4, q4, rfl⟩ := Sl.form h.p
  obtain ⟨fv, hw, hf⟩ := h.w
  obtain ⟨A5, q5, rfl⟩ := Sl.form hw
  exact ⟨A0, A1, A2, A3, A4, A5, q0, q1, q2, q3, q4, q5, rfl, rfl, rfl, rfl, rfl, rfl, ⟨h.m, h.s, h.u, h.p, ⟨fv, hw, hf⟩⟩⟩
theorem Wis.below {w w' : World} {B : Nat} {v : Value} {l : List Wi} (h : Wis w B v l) (hb : Below B w w') : Wis w' B v l := by
  obtain ⟨fv, h1, h2⟩ := h
  exact ⟨fv, Sl.below h1 hb, fun i hi => Sl.below (h2 i hi) hb⟩
theorem Wis.more {w : World} {B B' : Nat} {v : Value} {l : List Wi} (h : Wis w B v l) (hB : B ≤ B') : Wis w B' v l := by
  obtain ⟨fv, h1, h2⟩ := h
  exact ⟨fv, Sl.more h1 hB, fun i hi => Sl.more (h2 i hi) hB⟩
section
variable {w w' : World} {B B' : Nat} {A0 A1 A2 A3 A4 A5 : Option Addr} {q0 q1 q2 q3 q4 q5 : Nat} {l : Lo}
theorem LoA.below (h : LoA w B A0 A1 A2 A3 A4 A5 q0 q1 q2 q3 q4 q5 l) (hb : Below B w w') : LoA w' B A0 A1 A2 A3 A4 A5 q0 q1 q2 q3 q4 q5 l := ⟨h.m.below hb, Sl.below h.s hb, Sl.below h.u hb, Sl.below h.p hb, h.w.below hb⟩
theorem LoA.more (h : LoA w B A0 A1 A2 A3 A4 A5 q0 q1 q2 q3 q4 q5 l) (hB : B ≤ B') : LoA w B' A0 A1 A2 A3 A4 A5 q0 q1 q2 q3 q4 q5 l := ⟨h.m.more hB, Sl.more h.s hB, Sl.more h.u hB, Sl.more h.p hB, h.w.more hB⟩
theorem LoA.up (h : LoA w w.heap.size A0 A1 A2 A3 A4 A5 q0 q1 q2 q3 q4 q5 l) (hb : Below w.heap.size w w') : LoA w' w'.heap.size A0 A1 A2 A3 A4 A5 q0 q1 q2 q3 q4 q5 l := (h.below hb).more hb.size
/-- The cells of an element. -/
theorem sl_at {sz n : Nat} {A : Option Addr} {m q : Nat} {f : Nat → Nat → Value} (h : Sl w B sz (.slice A m q) n f) {k : Nat} (hk : k < n) : m = n ∧ m ≤ q ∧ ∃ b off, A = some ⟨b, off, none⟩ ∧ b < B ∧ ∀ j, j < sz → w.cell? ⟨b, off + (k * sz + j), none⟩ = some (f k j) := by
  obtain ⟨A', b, off, cap, h1, h2, h3, h4⟩ := h
  injection h1 with e1 e2 e3
  subst e1 e2 e3
  rcases h3 with ⟨h3, h5⟩ | h3
  · exact ⟨rfl, h2, b, off, h3, h5, fun j hj => h4 k j hk hj⟩
  · omega
theorem LoA.sp (h : LoA w B A0 A1 A2 A3 A4 A5 q0 q1 q2 q3 q4 q5 l) {k : Nat} (hk : k < l.ss.length) : ∃ b off x, Hid (l.ss.getD k Sp.o = x) ∧ A2 = some ⟨b, off, none⟩ ∧ b < B ∧ l.ss.length ≤ q2 ∧
    w.cell? ⟨b, off + k * 3, none⟩ = some (.int .i64 x.x) ∧ w.cell? ⟨b, off + k * 3 + 1, none⟩ = some (.int .i64 x.y) ∧ w.cell? ⟨b, off + k * 3 + 2, none⟩ = some (.int .i64 x.z) := by
  obtain ⟨_, h2, b, off, h3, h4, h5⟩ := sl_at h.s hk
  exact ⟨b, off, _, rfl, h3, h4, h2, h5 0 (by omega), h5 1 (by omega), h5 2 (by omega)⟩
theorem LoA.ru (h : LoA w B A0 A1 A2 A3 A4 A5 q0 q1 q2 q3 q4 q5 l) {k : Nat} (hk : k < l.us.length) : ∃ b off x, Hid (l.us.getD k Ru.o = x) ∧ A3 = some ⟨b, off, none⟩ ∧ b < B ∧ l.us.length ≤ q3 ∧
    w.cell? ⟨b, off + k * 4, none⟩ = some (.int .i64 x.a) ∧ w.cell? ⟨b, off + k * 4 + 1, none⟩ = some (.int .i64 x.b) ∧ w.cell? ⟨b, off + k * 4 + 2, none⟩ = some (.int .i64 x.len) ∧ w.cell? ⟨b, off + k * 4 + 3, none⟩ = some (.int .i64 x.room) := by
  obtain ⟨_, h2, b, off, h3, h4, h5⟩ := sl_at h.u hk
  exact ⟨b, off, _, rfl, h3, h4, h2, h5 0 (by omega), h5 1 (by omega), h5 2 (by omega), h5 3 (by omega)⟩
theorem LoA.pl (h : LoA w B A0 A1 A2 A3 A4 A5 q0 q1 q2 q3 q4 q5 l) {k : Nat} (hk : k < l.ps.length) : ∃ b off x, Hid (l.ps.getD k Pl.o = x) ∧ A4 = some ⟨b, off, none⟩ ∧ b < B ∧ l.ps.length ≤ q4 ∧
    w.cell? ⟨b, off + k * 3, none⟩ = some (.string x.name) ∧ w.cell? ⟨b, off + k * 3 + 1, none⟩ = some (.int .i64 x.spot) ∧ w.cell? ⟨b, off + k * 3 + 2, none⟩ = some (.int .i64 x.cav) := by
  obtain ⟨_, h2, b, off, h3, h4, h5⟩ := sl_at h.p hk
  exact ⟨b, off, _, rfl, h3, h4, h2, h5 0 (by omega), h5 1 (by omega), h5 2 (by omega)⟩
theorem LoA.wi (h : LoA w B A0 A1 A2 A3 A4 A5 q0 q1 q2 q3 q4 q5 l) {k : Nat} (hk : k < l.ws.length) : ∃ b off x Af qf, Hid (l.ws.getD k Wi.o = x) ∧ A5 = some ⟨b, off, none⟩ ∧ b < B ∧ l.ws.length ≤ q5 ∧ Hid (Ints w B (.slice Af x.form.length qf) x.form) ∧
    w.cell? ⟨b, off + k * 7, none⟩ = some (.string x.name) ∧ w.cell? ⟨b, off + k * 7 + 1, none⟩ = some (.int .i64 x.fp) ∧ w.cell? ⟨b, off + k * 7 + 2, none⟩ = some (.int .i64 x.fc) ∧ w.cell? ⟨b, off + k * 7 + 3, none⟩ = some (.int .i64 x.tp) ∧
    w.cell? ⟨b, off + k * 7 + 4, none⟩ = some (.int .i64 x.tc) ∧ w.cell? ⟨b, off + k * 7 + 5, none⟩ = some (.int .i64 x.size) ∧ w.cell? ⟨b, off + k * 7 + 6, none⟩ = some (.slice Af x.form.length qf) := by
  obtain ⟨fv, hs, hf⟩ := h.w
  obtain ⟨_, h2, b, off, h3, h4, h5⟩ := sl_at hs hk
  have h6 := hf k hk
  obtain ⟨Af, qf, e⟩ := Sl.form h6
  rw [e] at h6
  have h7 := h5 6 (by omega)
  rw [show wiC (l.ws.getD k Wi.o) (fv k) 6 = fv k from rfl, e] at h7
  exact ⟨b, off, _, Af, qf, rfl, h3, h4, h2, h6, h5 0 (by omega), h5 1 (by omega), h5 2 (by omega), h5 3 (by omega), h5 4 (by omega), h5 5 (by omega), h7⟩
end
theorem btw_t {n lo hi : Int} (h1 : lo ≤ n) (h2 : n ≤ hi) : btw n lo hi = true := by simp [btw, h1, h2]
theorem btw_f {n lo hi : Int} (h : n < lo ∨ hi < n) : btw n lo hi = false := by simp [btw]; omega
set_option maxRecDepth 100000 in
theorem within_any (n lo hi : Int) (w : World) : Calls Try.prog 54 #[.int .i64 n, .int .i64 lo, .int .i64 hi] w fun e w' => e = .returned (.bool (btw n lo hi)) ∧ w = w' := by
  by_cases h1 : lo ≤ n
  · have hr : btw n lo hi = decide (n ≤ hi) := by simp [btw, h1]
    have HR := hide hr
    clear hr
    go_enter Try.func54, Try.ntmps54
    go_wp2_with fail
    go_ret
    exact ⟨ret_bool HR.out.symm, rfl⟩
  · have hr : btw n lo hi = false := by simp [btw, h1]
    have HR := hide hr
    clear hr
    go_enter Try.func54, Try.ntmps54
    go_wp2_with fail
    go_ret
    exact ⟨ret_bool HR.out.symm, rfl⟩
set_option maxRecDepth 100000 in
theorem from_any (n lo hi : Int) (w : World) : Calls Try.prog 75 #[.int .i64 n, .int .i64 lo, .int .i64 hi] w fun e w' => e = .returned (.bool (btw n lo hi)) ∧ w = w' := by
  by_cases h1 : lo ≤ n
  · have hr : btw n lo hi = decide (n ≤ hi) := by simp [btw, h1]
    have HR := hide hr
    clear hr
    go_enter Try.func75, Try.ntmps75
    go_wp2_with fail
    go_ret
    exact ⟨ret_bool HR.out.symm, rfl⟩
  · have hr : btw n lo hi = false := by simp [btw, h1]
    have HR := hide hr
    clear hr
    go_enter Try.func75, Try.ntmps75
    go_wp2_with fail
    go_ret
    exact ⟨ret_bool HR.out.symm, rfl⟩
/-- An error unless something is so. -/
def mustE (b : Bool) (c : Int) : Int := if b then 0 else c
set_option maxRecDepth 100000 in
theorem must_any (b : Bool) (c : Int) (w : World) : Calls Try.prog 57 #[.bool b, .int .i64 c] w fun e w' => e = .returned (.int .i64 (mustE b c)) ∧ w = w' := by
  cases b with
  | true =>
    go_enter Try.func57, Try.ntmps57
    go_wp2_with fail
    go_ret
    exact ⟨rfl, rfl⟩
  | false =>
    go_enter Try.func57, Try.ntmps57
    go_wp2_with fail
    go_ret
    exact ⟨rfl, rfl⟩
theorem lowB_bad {s : ByteArray} {k : Nat} (h : k < s.size) (hn : smN s[k] = false) : lowB s.data.toList = false := by
  have : s.data.toList.all smN = false := by
    rw [← Bool.not_eq_true, List.all_eq_true]
    intro q
    have h1 : k < s.data.size := h
    have := q s.data[k] (by simp)
    rw [show s.data[k] = s[k] from rfl, hn] at this
    cases this
  simp [lowB, this]
theorem lowB_good {s : ByteArray} (hn : ∀ j, j < s.size → smN (s.data.toList.getD j 0) = true) : lowB s.data.toList = btw s.size 1 8 := by
  have h1 : s.data.toList.all smN = true := by
    rw [List.all_eq_true]
    intro x hx
    obtain ⟨i, hi, rfl⟩ := List.mem_iff_getElem.1 hx
    have := hn i (by simpa using hi)
    rwa [List.getD_eq_getElem?_getD, List.getElem?_eq_getElem hi, Option.getD_some] at this
  have hl : s.data.toList.length = s.size := by simp
  unfold lowB btw
  rw [h1, hl, Bool.and_true]
  congr 1
  · exact decide_eq_decide.2 (by omega)
  · exact decide_eq_decide.2 (by omega)
set_option maxRecDepth 100000 in
set_option maxHeartbeats 1000000 in
theorem low_any (s : ByteArray) (w : World) (hs : s.size ≤ maxLen) :
    Calls Try.prog 67 #[.string s] w fun e w' => e = .returned (.bool (lowB s.data.toList)) ∧ w = w' := by
  unfold maxLen at hs
  go_enter Try.func67, Try.ntmps67
  go_wp2
  go_loop [3, 6] (fun _ i => ∃ k : Nat, k ≤ s.size ∧ i = .int .i64 k ∧ Hid (∀ j, j < k → smN (s.data.toList.getD j 0) = true)) (fun _ i => s.size - (intOf i).toNat)
  case atStart => exact ⟨0, Nat.zero_le _, rfl, fun j hj => by omega⟩
  case round =>
    obtain ⟨k, hk, rfl, hall⟩ := hrel
    by_cases hlt : k < s.size
    · have hgd := getD_str s k hlt
      have hyes : smN s[k] = true → Hid (∀ j, j < k + 1 → smN (s.data.toList.getD j 0) = true) := fun h j hj => by
        rcases Nat.lt_or_ge j k with h1 | h1
        · exact hall.out j h1
        · rw [show j = k from by omega, hgd]; exact h
      have hno : smN s[k] = false → lowB s.data.toList = false := fun h => lowB_bad hlt h
      have HY := hide hyes
      have HN := hide hno
      clear hgd hyes hno
      by_cases h1 : (s[k].toNat : Int) < 97
      · have HC := hide (smN_not (.inl h1))
        go_wp2
        go_ret
        exact ⟨ret_bool (HN.out HC.out).symm, rfl⟩
      · by_cases h2 : (122 : Int) < (s[k].toNat : Int)
        · have HC := hide (smN_not (.inr h2))
          go_wp2
          go_ret
          exact ⟨ret_bool (HN.out HC.out).symm, rfl⟩
        · have HC := hide (smN_of (c := s[k]) (by omega) (by omega))
          go_wp2
          go_round
          case rel => exact ⟨k + 1, by omega, by go_num, HY.out HC.out⟩
          case measure => simp [intOf]; omega
    · have : k = s.size := by omega
      subst this
      have hg := lowB_good (s := s) (by simpa using hall.out)
      have HG := hide hg
      clear hg
      go_wp2_with (go_at_call 54; refine (within_any _ _ _ _).mono ?_; rintro e w1 ⟨rfl, rfl⟩)
      go_ret
      exact ⟨ret_bool HG.out.symm, rfl⟩
set_option maxRecDepth 100000 in
set_option maxHeartbeats 1000000 in
theorem rlow_any (s : ByteArray) (w : World) (hs : s.size ≤ maxLen) :
    Calls Try.prog 136 #[.string s] w fun e w' => e = .returned (.bool (lowB s.data.toList)) ∧ w = w' := by
  unfold maxLen at hs
  have hl : s.data.toList.length = s.size := by simp
  by_cases h1 : s.size < 1
  · have hf : lowB s.data.toList = false := by unfold lowB; rw [hl]; simp; omega
    have HF := hide hf
    have h2 : (s.size : Int) < 1 := by omega
    clear hf hl h1
    go_enter Try.func136, Try.ntmps136
    go_wp2
    go_ret
    exact ⟨ret_bool HF.out.symm, rfl⟩
  by_cases h2 : 8 < s.size
  · have hf : lowB s.data.toList = false := by unfold lowB; rw [hl]; simp; omega
    have HF := hide hf
    have h3 : (8 : Int) < (s.size : Int) := by omega
    have h4 : ¬ (s.size : Int) < 1 := by omega
    clear hf hl h1 h2
    go_enter Try.func136, Try.ntmps136
    go_wp2
    go_ret
    exact ⟨ret_bool HF.out.symm, rfl⟩
  have h3 : ¬ (s.size : Int) < 1 := by omega
  have h4 : ¬ (8 : Int) < (s.size : Int) := by omega
  clear hl
  go_enter Try.func136, Try.ntmps136
  go_wp2
  go_loop [3] (fun i => ∃ k : Nat, k ≤ s.size ∧ i = .int .i64 k ∧ Hid (∀ j, j < k → smN (s.data.toList.getD j 0) = true)) (fun i => s.size - (intOf i).toNat)
  case atStart => exact ⟨0, Nat.zero_le _, rfl, fun j hj => by omega⟩
  case round =>
    obtain ⟨k, hk, rfl, hall⟩ := hrel
    by_cases hlt : k < s.size
    · have hgd := getD_str s k hlt
      have hyes : smN s[k] = true → Hid (∀ j, j < k + 1 → smN (s.data.toList.getD j 0) = true) := fun h j hj => by
        rcases Nat.lt_or_ge j k with h1 | h1
        · exact hall.out j h1
        · rw [show j = k from by omega, hgd]; exact h
      have hno : smN s[k] = false → lowB s.data.toList = false := fun h => lowB_bad hlt h
      have HY := hide hyes
      have HN := hide hno
      clear hgd hyes hno
      by_cases h1 : (s[k].toNat : Int) < 97
      · have HC := hide (smN_not (.inl h1))
        go_wp2
        go_ret
        exact ⟨ret_bool (HN.out HC.out).symm, rfl⟩
      · by_cases h2 : (122 : Int) < (s[k].toNat : Int)
        · have HC := hide (smN_not (.inr h2))
          go_wp2
          go_ret
          exact ⟨ret_bool (HN.out HC.out).symm, rfl⟩
        · have HC := hide (smN_of (c := s[k]) (by omega) (by omega))
          go_wp2
          go_round
          case rel => exact ⟨k + 1, by omega, by go_num, HY.out HC.out⟩
          case measure => simp [intOf]; omega
    · have : k = s.size := by omega
      subst this
      have hg := lowB_good (s := s) (by simpa using hall.out)
      rw [btw_t (by omega) (by omega)] at hg
      have HG := hide hg
      clear hg
      go_wp2
      go_ret
      exact ⟨ret_bool HG.out.symm, rfl⟩
end Go.Proofs.Ytmabfnddedffoaa
/- The greatest sum of weights that nodes allow. Plain laws. -/
namespace Go.Proofs.Ytmabfnddedffoaa
set_option linter.unusedVariables false
def leastI : Int := -1152921504606846976
/-- The weights of the nodes that hold. -/
def wsum (ks : List Kn) (v : Nat → Bool) : List Nat → List Int → Int
  | n :: ns, x :: xs => (if ev ks v n then x else 0) + wsum ks v ns xs
  | _, _ => 0
/-- What a variant is worth: the first node has to hold. -/
def valI (ks : List Kn) (v : Nat → Bool) (nodes : List Nat) (ws : List Int) : Int :=
  match nodes with
  | [] => leastI
  | n :: ns => if ev ks v n then wsum ks v ns ws else leastI
def maxL (l : List Int) : Int := l.foldl max leastI
theorem foldl_max : ∀ (l : List Int) (i : Int), leastI ≤ i → l.foldl max i = max i (maxL l)
  | [], i, h => by simp only [maxL, List.foldl_nil]; omega
  | a :: l, i, h => by
    have h1 := foldl_max l (max i a) (by omega)
    have h2 := foldl_max l (max leastI a) (by omega)
    unfold maxL at h1 h2 ⊢
    simp only [List.foldl_cons]
    rw [h1, h2]
    omega
theorem maxL_least (l : List Int) : leastI ≤ maxL l := by
  have : ∀ (l : List Int) (i : Int), leastI ≤ i → leastI ≤ l.foldl max i := by
    intro l
    induction l with
    | nil => intro i h; exact h
    | cons a l ih => intro i h; exact ih _ (by omega)
  exact this l _ (Int.le_refl _)
theorem maxL_cons (a : Int) (l : List Int) : maxL (a :: l) = max (max leastI a) (maxL l) := foldl_max l _ (by omega)
theorem maxL_append (a b : List Int) : maxL (a ++ b) = max (maxL a) (maxL b) := by
  show (a ++ b).foldl max leastI = _
  rw [List.foldl_append]
  exact foldl_max b _ (maxL_least a)
theorem maxL_mem : ∀ (l : List Int) (x : Int), x ∈ l → x ≤ maxL l
  | a :: l, x, h => by
    rw [maxL_cons]
    rcases List.mem_cons.1 h with rfl | h
    · omega
    · have := maxL_mem l x h
      omega
theorem maxL_const {c : Int} (hc : leastI ≤ c) : ∀ (l : List Int), l ≠ [] → (∀ x ∈ l, x = c) → maxL l = c
  | [a], _, h => by
    rw [maxL_cons, h a (by simp)]
    simp only [maxL, List.foldl_nil]; omega
  | a :: b :: l, _, h => by
    rw [maxL_cons, h a (by simp), maxL_const hc (b :: l) (by simp) (fun x hx => h x (by simp [hx]))]
    omega
theorem maxL_attained : ∀ (l : List Int), leastI < maxL l → maxL l ∈ l
  | [], h => by simp [maxL] at h
  | a :: l, h => by
    rw [maxL_cons] at h ⊢
    by_cases h1 : maxL l ≤ a
    · rw [show max (max leastI a) (maxL l) = a by omega]; simp
    · have h2 := maxL_least l
      rw [show max (max leastI a) (maxL l) = maxL l by omega]
      exact List.mem_cons_of_mem _ (maxL_attained l (by omega))
/-- The greatest worth of the variants that begin with a list. -/
def bestK (ks : List Kn) (N : Nat) (nodes : List Nat) (ws : List Int) (l : List Bool) : Int := maxL ((exts (N - l.length) l).map fun x => valI ks (vf x) nodes ws)
theorem wsum_congr {ks ks' : List Kn} {v v' : Nat → Bool} : ∀ {a b : List Nat} {ws : List Int}, a.length = b.length → (∀ i, i < a.length → ev ks v (a.getD i 0) = ev ks' v' (b.getD i 0)) → wsum ks v a ws = wsum ks' v' b ws
  | [], [], ws, _, _ => by cases ws <;> rfl
  | x :: a, y :: b, [], _, _ => rfl
  | x :: a, y :: b, w :: ws, hl, h => by
    have h0 := h 0 (by simp)
    simp only [List.getD_cons_zero] at h0
    simp only [wsum, h0]
    rw [wsum_congr (by simpa using hl) fun i hi => by have := h (i + 1) (by simpa using hi); simpa using this]
  | [], y :: b, _, hl, _ => by simp at hl
  | x :: a, [], _, hl, _ => by simp at hl
theorem valI_congr {ks ks' : List Kn} {v v' : Nat → Bool} {a b : List Nat} {ws : List Int} (hl : a.length = b.length) (h : ∀ i, i < a.length → ev ks v (a.getD i 0) = ev ks' v' (b.getD i 0)) : valI ks v a ws = valI ks' v' b ws := by
  match a, b, hl, h with
  | [], [], _, _ => rfl
  | x :: a, y :: b, hl, h =>
    have h0 := h 0 (by simp)
    simp only [List.getD_cons_zero] at h0
    simp only [valI, h0]
    rw [wsum_congr (by simpa using hl) fun i hi => by have := h (i + 1) (by simpa using hi); simpa using this]
  | [], y :: b, hl, _ => simp at hl
  | x :: a, [], hl, _ => simp at hl
theorem bestK_split {ks : List Kn} {N : Nat} {nodes : List Nat} {ws : List Int} {l : List Bool} (hl : l.length < N) : bestK ks N nodes ws l = max (bestK ks N nodes ws (l ++ [false])) (bestK ks N nodes ws (l ++ [true])) := by
  unfold bestK
  rw [← maxL_append, ← List.map_append]
  rw [show N - l.length = (N - (l ++ [false]).length) + 1 from by simp; omega]
  simp only [exts, List.length_append, List.length_singleton]
theorem getD_map {α β : Type} (f : α → β) (l : List α) (z : α) (i : Nat) (h : i < l.length) (y : β) : (l.map f).getD i y = f (l.getD i z) := by
  simp [List.getD_eq_getElem?_getD, h]
section
variable {N : Nat} {ks : List Kn} (h : WF N ks)
include h
theorem bestK_br {nodes : List Nat} {ws : List Int} {l : List Bool} {b : Bool} (hn : ∀ n ∈ nodes, n < ks.length) (hl : l.length < N) : bestK ks N (nodes.map fun n => brK ks n l.length b) ws (l ++ [b]) = bestK ks N nodes ws (l ++ [b]) := by
  unfold bestK
  congr 1
  refine List.map_congr_left fun x hx => ?_
  obtain ⟨y, rfl, _⟩ := exts_prefix hx
  refine valI_congr (by simp) fun i hi => ?_
  have hi' : i < nodes.length := by simpa using hi
  rw [getD_map _ _ 0 _ hi']
  exact brK_ev h (hn _ (by rw [List.getD_eq_getElem?_getD, List.getElem?_eq_getElem hi']; exact List.getElem_mem _)) hl _ (vf_at l b y)
theorem bestK_len {nodes : List Nat} {ws : List Int} {l l' : List Bool} (hn : ∀ n ∈ nodes, n < ks.length) (he : l.length = l'.length) (ht : ∀ n ∈ nodes, l.length ≤ topK ks n) : bestK ks N nodes ws l = bestK ks N nodes ws l' := by
  unfold bestK
  rw [exts_nil _ l, exts_nil _ l', List.map_map, List.map_map, he]
  congr 1
  refine List.map_congr_left fun x hx => ?_
  refine valI_congr rfl fun i hi => ?_
  have hm : nodes.getD i 0 ∈ nodes := by rw [List.getD_eq_getElem?_getD, List.getElem?_eq_getElem hi]; exact List.getElem_mem _
  refine ev_congr h _ _ _ (hn _ hm) fun j h1 h2 => ?_
  have := ht _ hm
  show vf (l ++ x) j = vf (l' ++ x) j
  rw [vf_right (by omega), vf_right (by omega), he]
/-- Options that no node asks for change nothing. -/
theorem bestK_lift {nodes : List Nat} {ws : List Int} (hn : ∀ n ∈ nodes, n < ks.length) : ∀ (k o : Nat), o + k ≤ N → (∀ n ∈ nodes, o + k ≤ topK ks n) → bestK ks N nodes ws (List.replicate o false) = bestK ks N nodes ws (List.replicate (o + k) false)
  | 0, o, _, _ => rfl
  | k + 1, o, hN, ht => by
    rw [bestK_split (by simp; omega), bestK_len h (l := List.replicate o false ++ [false]) (l' := List.replicate (o + 1) false) hn (by simp) (fun n hn => by have := ht n hn; simp; omega), bestK_len h (l := List.replicate o false ++ [true]) (l' := List.replicate (o + 1) false) hn (by simp) (fun n hn => by have := ht n hn; simp; omega), bestK_lift hn k (o + 1) (by omega) (fun n hn => by have := ht n hn; omega)]
    rw [show o + (k + 1) = o + 1 + k by omega]
    omega
omit h in
theorem bestK_no {ns : List Nat} {ws : List Int} (l : List Bool) : bestK ks N (0 :: ns) ws l = leastI := by
  unfold bestK
  refine maxL_const (Int.le_refl _) _ ?_ ?_
  · intro e
    have := congrArg List.length e
    rw [List.length_map, exts_length] at this
    have := Nat.one_le_two_pow (n := N - l.length)
    simp at *
  · intro x hx
    rw [List.mem_map] at hx
    obtain ⟨y, _, rfl⟩ := hx
    simp [valI, ev_zero]
omit h in
/-- The sum of the weights whose nodes are 'yes'. -/
def wyes : List Nat → List Int → Int
  | n :: ns, x :: xs => (if n = 1 then x else 0) + wyes ns xs
  | _, _ => 0
omit h in
theorem wsum_ends (v : Nat → Bool) : ∀ (ns : List Nat) (ws : List Int), (∀ n ∈ ns, n < 2) → wsum ks v ns ws = wyes ns ws
  | [], ws, _ => by cases ws <;> rfl
  | n :: ns, [], _ => rfl
  | n :: ns, x :: xs, h => by
    have h0 := h n (by simp)
    simp only [wsum, wyes]
    rw [wsum_ends v ns xs fun m hm => h m (by simp [hm])]
    rcases (by omega : n = 0 ∨ n = 1) with rfl | rfl
    · simp [ev_zero]
    · simp [ev_one]
omit h in
theorem bestK_ends {ns : List Nat} {ws : List Int} (l : List Bool) (hn : ∀ n ∈ ns, n < 2) (hw : leastI ≤ wyes ns ws) : bestK ks N (1 :: ns) ws l = wyes ns ws := by
  unfold bestK
  refine maxL_const hw _ ?_ ?_
  · intro e
    have := congrArg List.length e
    rw [List.length_map, exts_length] at this
    have := Nat.one_le_two_pow (n := N - l.length)
    simp at *
  · intro x hx
    rw [List.mem_map] at hx
    obtain ⟨y, _, rfl⟩ := hx
    simp only [valI, ev_one, if_true]
    exact wsum_ends _ ns ws hn
/-- The step that best takes. -/
theorem bestK_step {nodes : List Nat} {ws : List Int} {t : Nat} (hn : ∀ n ∈ nodes, n < ks.length) (htN : t < N) (ht : ∀ n ∈ nodes, t ≤ topK ks n) : bestK ks N nodes ws [] = max (bestK ks N (nodes.map fun n => brK ks n t false) ws []) (bestK ks N (nodes.map fun n => brK ks n t true) ws []) := by
  have key : ∀ b, bestK ks N (nodes.map fun n => brK ks n t b) ws [] = bestK ks N nodes ws (List.replicate t false ++ [b]) := by
    intro b
    have hlt : ∀ n ∈ nodes.map fun n => brK ks n t b, n < ks.length := by
      intro n hm
      rw [List.mem_map] at hm
      obtain ⟨x, hx, rfl⟩ := hm
      exact brK_lt h (hn x hx) htN
    have htt : ∀ n ∈ nodes.map fun n => brK ks n t b, t + 1 ≤ topK ks n := by
      intro n hm
      rw [List.mem_map] at hm
      obtain ⟨x, hx, rfl⟩ := hm
      exact brK_top h (hn x hx) htN (ht x hx)
    have h1 := bestK_lift h (ws := ws) hlt (t + 1) 0 (by omega) (fun n hm => by have := htt n hm; omega)
    have h2 := bestK_br h (nodes := nodes) (ws := ws) (l := List.replicate t false) (b := b) hn (by simpa using htN)
    rw [List.length_replicate] at h2
    rw [← h2]
    rw [show ([] : List Bool) = List.replicate 0 false from rfl, h1]
    exact bestK_len h hlt (by simp) (fun n hm => by have := htt n hm; simp; omega)
  have h1 := bestK_lift h (ws := ws) hn t 0 (by omega) (fun n hm => by have := ht n hm; omega)
  rw [show List.replicate 0 false = ([] : List Bool) from rfl, Nat.zero_add] at h1
  rw [key, key, h1, bestK_split (by simpa using htN)]
end
end Go.Proofs.Ytmabfnddedffoaa
/- The text of a list of numbers below 2 to the 30th: lists that differ have texts that differ. Plain laws. -/
namespace Go.Proofs.Ytmabfnddedffoaa
set_option linter.unusedVariables false
/-- The two runes of a number. -/
def kyL (l : List Nat) : List Int := l.flatMap fun n => [((n % 32768 : Nat) : Int), ((n / 32768 % 32768 : Nat) : Int)]
def kyS (l : List Nat) : ByteArray := runesBytes (kyL l)
/-- What comes of the first rune of some bytes. -/
def decR : List UInt8 → Nat × List UInt8
  | [] => (0, [])
  | a :: r =>
    if a.toNat < 128 then (a.toNat, r)
    else if a.toNat < 224 then (match r with | b :: r => ((a.toNat - 192) * 64 + (b.toNat - 128), r) | [] => (0, []))
    else (match r with | b :: c :: r => ((a.toNat - 224) * 4096 + (b.toNat - 128) * 64 + (c.toNat - 128), r) | _ => (0, []))
theorem valid_small {n : Nat} (h : n < 32768) : Utf8.valid (n : Int) = true := by
  unfold Utf8.valid; simp; omega
theorem decR_encode {n : Nat} (h : n < 32768) (r : List UInt8) : decR ((Utf8.encode (n : Int)).data.toList ++ r) = (n, r) := by
  unfold Utf8.encode
  simp only [valid_small h, if_true, Int.toNat_natCast]
  by_cases h1 : n < 128
  · rw [if_pos h1]
    show decR (UInt8.ofNat n :: r) = (n, r)
    have e : (UInt8.ofNat n).toNat = n := by simp; omega
    simp only [decR, e, if_pos h1]
  · rw [if_neg h1]
    by_cases h2 : n < 2048
    · rw [if_pos h2]
      show decR (UInt8.ofNat (192 + n / 64) :: UInt8.ofNat (128 + n % 64) :: r) = (n, r)
      have e1 : (UInt8.ofNat (192 + n / 64)).toNat = 192 + n / 64 := by simp; omega
      have e2 : (UInt8.ofNat (128 + n % 64)).toNat = 128 + n % 64 := by simp; omega
      simp only [decR, e1, e2]
      rw [if_neg (by omega), if_pos (by omega)]
      refine Prod.ext ?_ rfl
      simp only
      omega
    · rw [if_neg h2, if_pos (by omega)]
      show decR (UInt8.ofNat (224 + n / 4096) :: UInt8.ofNat (128 + n / 64 % 64) :: UInt8.ofNat (128 + n % 64) :: r) = (n, r)
      have e1 : (UInt8.ofNat (224 + n / 4096)).toNat = 224 + n / 4096 := by simp; omega
      have e2 : (UInt8.ofNat (128 + n / 64 % 64)).toNat = 128 + n / 64 % 64 := by simp; omega
      have e3 : (UInt8.ofNat (128 + n % 64)).toNat = 128 + n % 64 := by simp; omega
      simp only [decR, e1, e2, e3]
      rw [if_neg (by omega), if_neg (by omega)]
      refine Prod.ext ?_ rfl
      simp only
      omega
theorem runesBytes_toList (ns : List Int) : (runesBytes ns).data.toList = ns.flatMap fun n => (Utf8.encode n).data.toList := by
  have : ∀ (ns : List Int) (s : ByteArray), (ns.foldl (fun r n => r ++ Utf8.encode n) s).data.toList = s.data.toList ++ ns.flatMap fun n => (Utf8.encode n).data.toList := by
    intro ns
    induction ns with
    | nil => intro s; simp
    | cons n r ih => intro s; rw [List.foldl_cons, ih]; simp
  have h := this ns ByteArray.empty
  simpa [runesBytes] using h
theorem encode_ne {n : Nat} (h : n < 32768) : (Utf8.encode (n : Int)).data.toList ≠ [] := by
  unfold Utf8.encode
  simp only [valid_small h, if_true, Int.toNat_natCast]
  repeat' split
  all_goals simp
theorem flat_injE (E : Nat → List UInt8) (D : List UInt8 → Nat × List UInt8) (P : Nat → Prop) (hD : ∀ n, P n → ∀ r, D (E n ++ r) = (n, r)) (hne : ∀ n, P n → E n ≠ []) : ∀ (a b : List Nat), (∀ n ∈ a, P n) → (∀ n ∈ b, P n) → a.flatMap E = b.flatMap E → a = b
  | [], [], _, _, _ => rfl
  | [], y :: b, _, hb, h => by
    rw [List.flatMap_nil, List.flatMap_cons] at h
    exact absurd (List.append_eq_nil_iff.1 h.symm).1 (hne y (hb y (by simp)))
  | x :: a, [], ha, _, h => by
    rw [List.flatMap_nil, List.flatMap_cons] at h
    exact absurd (List.append_eq_nil_iff.1 h).1 (hne x (ha x (by simp)))
  | x :: a, y :: b, ha, hb, h => by
    rw [List.flatMap_cons, List.flatMap_cons] at h
    have h1 := hD x (ha x (by simp)) (a.flatMap E)
    rw [h, hD y (hb y (by simp))] at h1
    injection h1 with e1 e2
    rw [e1, flat_injE E D P hD hne a b (fun n hn => ha n (by simp [hn])) (fun n hn => hb n (by simp [hn])) e2.symm]
theorem flat_inj (a b : List Nat) (ha : ∀ n ∈ a, n < 32768) (hb : ∀ n ∈ b, n < 32768) (h : (a.flatMap fun (n : Nat) => (Utf8.encode (n : Int)).data.toList) = (b.flatMap fun (n : Nat) => (Utf8.encode (n : Int)).data.toList)) : a = b :=
  flat_injE _ decR (· < 32768) (fun n hn r => decR_encode hn r) (fun n hn => encode_ne hn) a b ha hb h
def kyN (l : List Nat) : List Nat := l.flatMap fun n => [n % 32768, n / 32768 % 32768]
theorem kyL_eq (l : List Nat) : kyL l = (kyN l).map fun (n : Nat) => (n : Int) := by
  unfold kyL kyN
  rw [List.map_flatMap]
  rfl
theorem kyN_small (l : List Nat) : ∀ n ∈ kyN l, n < 32768 := by
  intro n hn
  unfold kyN at hn
  rw [List.mem_flatMap] at hn
  obtain ⟨m, _, h⟩ := hn
  simp at h
  omega
theorem kyN_inj : ∀ (a b : List Nat), (∀ n ∈ a, n < 1073741824) → (∀ n ∈ b, n < 1073741824) → kyN a = kyN b → a = b
  | [], [], _, _, _ => rfl
  | [], y :: b, _, _, h => by simp [kyN] at h
  | x :: a, [], _, _, h => by simp [kyN] at h
  | x :: a, y :: b, ha, hb, h => by
    have h1 := ha x (by simp)
    have h2 := hb y (by simp)
    have e : kyN (x :: a) = x % 32768 :: (x / 32768 % 32768) :: kyN a := rfl
    have e' : kyN (y :: b) = y % 32768 :: (y / 32768 % 32768) :: kyN b := rfl
    rw [e, e'] at h
    injection h with h3 h
    injection h with h4 h
    rw [kyN_inj a b (fun n hn => ha n (by simp [hn])) (fun n hn => hb n (by simp [hn])) h]
    obtain rfl : x = y := by omega
    rfl
theorem kyS_inj {a b : List Nat} (ha : ∀ n ∈ a, n < 1073741824) (hb : ∀ n ∈ b, n < 1073741824) (h : kyS a = kyS b) : a = b := by
  refine kyN_inj a b ha hb (flat_inj _ _ (kyN_small a) (kyN_small b) ?_)
  have h1 := congrArg (fun s : ByteArray => s.data.toList) h
  simp only [kyS, runesBytes_toList, kyL_eq, List.flatMap_map] at h1
  exact h1
theorem kyS_size (l : List Nat) : (kyS l).size ≤ 8 * l.length := by
  have h := runesBytes_size_le (kyL l)
  have h2 : ∀ l, (kyL l).length = 2 * l.length := by
    intro l
    induction l with
    | nil => rfl
    | cons x r ih =>
      show (kyL r).length + 1 + 1 = 2 * (r.length + 1)
      omega
  have h3 := h2 l
  unfold kyS
  omega
end Go.Proofs.Ytmabfnddedffoaa
/- begin: walk. -/
namespace Go.Proofs.Ytmabfnddedffoaa
open Go.RowKit
set_option linter.unusedVariables false
set_option linter.unusedSimpArgs false
/-- What begin gives back where nothing is wrong. -/
structure BegR (m : Mo) (w w' : World) (F : Fo) (n : Nat) : Prop where
  here : FoAt w' F
  N : F.N = m.opts.length
  base : w.heap.size ≤ F.base
  below : Below w.heap.size w w'
  base2 : F.base ≤ w'.heap.size
  lt : n < F.ks.length
  ev : ∀ v, ev F.ks v n = allF v m.rules
  len : F.ks.length ≤ 2 + 6120 * 2 ^ F.N
  nj : F.nj ≤ 6120 * 2 ^ F.N
theorem BegR.room {m : Mo} {w w' : World} {F : Fo} {n : Nat} (h : BegR m w w' F n) (hN : m.opts.length ≤ 12) {k : Nat} (hk : k ≤ 200000) : Room F k := by
  have h1 := h.len
  have h2 := h.nj
  have h3 : 2 ^ F.N ≤ 2 ^ 12 := Nat.pow_le_pow_right (by omega) (by rw [h.N]; exact hN)
  have h4 := Nat.mul_le_mul (Nat.le_refl 6120) h3
  have h5 := Nat.mul_le_mul hk h3
  unfold Room
  omega
set_option maxRecDepth 100000 in
theorem begin_err (m : Mo) (l : List (List Int)) (ov rv lv : Value) (w : World) (hs : SizedM m) (hl : Sized l) (h : MoAt w w.heap.size ov rv m) (hf : Forms w w.heap.size lv l) (he : m.errF l ≠ 0) :
    Calls Try.prog 147 #[.agg #[ov, rv], lv] w fun e w' => e = .returned (.tuple #[.pointer none, .int .i64 0, .int .i64 (m.errF l)]) ∧ Below w.heap.size w w' := by
  obtain ⟨A, cap, hov⟩ := Sl.form h.o
  obtain ⟨Ar, capr, hrv⟩ := h.r.form
  obtain ⟨Al, capl, hlv⟩ := hf.form
  have H := hide h
  have HF := hide hf
  subst hov hrv hlv
  have hne : (m.errF l != 0) = true := by simpa using he
  obtain ⟨z, hz⟩ : ∃ z, m.errF l = z := ⟨_, rfl⟩
  rw [hz] at hne ⊢
  have HZ := hide hz
  clear h hf hz he
  go_enter Try.func147, Try.ntmps147
  go_upto_region 1 with (fail)
  generalize hw0 : World.alloc _ _ = w0
  obtain ⟨hb0, hB0, hs0⟩ := alloc1 hw0
  clear hw0
  have c0 := cellOf hb0 0
  have c1 := cellOf hb0 1
  have HB0 := hide hB0
  have hck := check_any m l (.slice A m.opts.length cap) (.slice Ar m.rules.length capr) (.slice Al l.length capl) w0 hs hl (H.out.up hB0) (HF.out.up hB0)
  rw [HZ.out] at hck
  have HCK := hide hck
  clear hb0 hB0 hs0 hck
  go_wp2_with (go_at_call 133; refine HCK.out.mono ?_; rintro e w1 ⟨rfl, hB1⟩)
  go_ret3
  exact ⟨rfl, Below.to HB0.out hB1 (Nat.le_refl _)⟩
set_option maxRecDepth 100000 in
theorem begin_ok (m : Mo) (l : List (List Int)) (ov rv lv : Value) (w : World) (hs : SizedM m) (hl : Sized l) (h : MoAt w w.heap.size ov rv m) (hf : Forms w w.heap.size lv l) (he : m.errF l = 0) (hN : m.opts.length ≤ 12) :
    Calls Try.prog 147 #[.agg #[ov, rv], lv] w fun e w' => ∃ F n, e = .returned (.tuple #[.pointer (some ⟨F.p, 0, none⟩), .int .i64 (n : Nat), .int .i64 0]) ∧ BegR m w w' F n := by
  obtain ⟨A, cap, hov⟩ := Sl.form h.o
  obtain ⟨Ar, capr, hrv⟩ := h.r.form
  obtain ⟨Al, capl, hlv⟩ := hf.form
  have H := hide h
  have HF := hide hf
  have hok := Mo.ok (Mo.okF he).1
  subst hov hrv hlv
  clear h hf
  go_enter Try.func147, Try.ntmps147
  go_upto_region 1 with (fail)
  generalize hw0 : World.alloc _ _ = w0
  obtain ⟨hb0, hB0, hs0⟩ := alloc1 hw0
  clear hw0
  have c0 := cellOf hb0 0
  have c1 := cellOf hb0 1
  have HX0 : Hid (MoBox w0 w.heap.size (.slice A m.opts.length cap) (.slice Ar m.rules.length capr)) := hb0
  have HB0 := hide hB0
  have hck := check_any m l (.slice A m.opts.length cap) (.slice Ar m.rules.length capr) (.slice Al l.length capl) w0 hs hl (H.out.up hB0) (HF.out.up hB0)
  rw [he] at hck
  have HCK := hide hck
  have HOK := hide hok
  clear hb0 hB0 hs0 hck he hok
  go_wp2_with (first | (go_at_call 133; refine HCK.out.mono ?_; rintro e w1 ⟨rfl, hB1⟩; have hbx := box_to HX0.out hB1; have d0 := cellOf hbx 0; have d1 := cellOf hbx 1; have HB1 : Hid (Below w.heap.size w w1) := Below.to HB0.out hB1 (Nat.le_refl _); have HX1 : Hid (MoBox w1 w.heap.size (.slice A m.opts.length cap) (.slice Ar m.rules.length capr)) := hbx; clear hbx hB1 c0 c1) | (go_at_call 166; refine (newForest_any m.opts.length (by omega) _).mono ?_; rintro e w2 ⟨rfl, hF2, hB2⟩; have hbx := box_to HX1.out hB2; have x0 := cellOf hbx 0; have x1 := cellOf hbx 1; have HB2 : Hid (Below w.heap.size w w2) := Below.to HB1.out hB2 (Nat.le_refl _); have HF2 := hide hF2; have HS2 : Hid (w1.heap.size ≤ w2.heap.size) := hB2.size; clear hbx hB2 hF2 d0 d1))
  have hp : 2 ^ m.opts.length ≤ 2 ^ 12 := Nat.pow_le_pow_right (by omega) hN
  have hrl : 102 * m.rules.length ≤ 6120 := by have := HOK.out.2.1; omega
  have hmu := Nat.mul_le_mul hrl hp
  have hmu2 : 102 * m.rules.length * 2 ^ m.opts.length ≤ 6120 * 2 ^ m.opts.length := Nat.mul_le_mul_right _ hrl
  have hs1 := HB1.out.size
  have hs2 := HS2.out
  have hal := all_any (newFo w1.heap.size m.opts.length) m.rules (.slice Ar m.rules.length capr) w2 HF2.out hs2 HOK.out.2.2.2 ((H.out.r.below HB2.out).more hs1) (by have := HOK.out.2.1; omega) ⟨by show 2 + 102 * m.rules.length * 2 ^ m.opts.length ≤ _; omega, by show 0 + 102 * m.rules.length * 2 ^ m.opts.length ≤ _; omega⟩
  have HAL : Hid (Calls Try.prog 149 #[.pointer (some ⟨w1.heap.size + 3, 0, none⟩), .slice Ar m.rules.length capr] w2 _) := hal
  have HMU : Hid (102 * m.rules.length * 2 ^ m.opts.length ≤ 6120 * 2 ^ m.opts.length) := hmu2
  clear hp hrl hmu hmu2 hs1 hs2 hal
  refine HAL.out.mono ?_
  rintro e w3 ⟨n, F3, rfl, r1, r2, r3⟩
  have R1 := hide r1
  have R3 := hide r3
  clear r1 r3
  go_wp2_with fail
  go_ret3
  refine ⟨F3, n, ?_, ?_⟩
  · rw [R1.out.st.p]; rfl
  · have hb3 := R1.out.st.below HF2.out HS2.out
    refine ⟨R1.out.st.here, R1.out.st.N, by rw [R1.out.st.ba]; exact HB1.out.size, ?_, ?_, r2, R3.out, ?_, ?_⟩
    · exact ⟨hb3.os.trans HB2.out.os, hb3.tape.trans HB2.out.tape, hb3.output.trans HB2.out.output, Nat.le_trans HB2.out.size hb3.size, fun k hk => (hb3.block k (Nat.lt_of_lt_of_le hk HB1.out.size)).trans (HB2.out.block k hk)⟩
    · rw [R1.out.st.ba]; exact Nat.le_trans HS2.out hb3.size
    · have h1 := R1.out.len
      have h2 := HMU.out
      rw [R1.out.st.N]
      show _ ≤ 2 + 6120 * 2 ^ m.opts.length
      replace h1 : F3.ks.length ≤ 2 + 102 * m.rules.length * 2 ^ m.opts.length := h1
      omega
    · have h1 := R1.out.nj
      have h2 := HMU.out
      rw [R1.out.st.N]
      show _ ≤ 6120 * 2 ^ m.opts.length
      replace h1 : F3.nj ≤ 0 + 102 * m.rules.length * 2 ^ m.opts.length := h1
      omega
end Go.Proofs.Ytmabfnddedffoaa
/- Count: walk. -/
namespace Go.Proofs.Ytmabfnddedffoaa
open Go.RowKit
set_option linter.unusedVariables false
set_option linter.unusedSimpArgs false
/-- The buildable variants in which a formula holds. -/
def satM (m : Mo) (p : (Nat → Bool) → Bool) : List (List Bool) := (exts m.opts.length []).filter fun x => allF (vf x) m.rules && p (vf x)
theorem satM_node {m : Mo} {ks : List Kn} {N n : Nat} {p : (Nat → Bool) → Bool} (hN : N = m.opts.length) (h : ∀ v, ev ks v n = (allF v m.rules && p v)) : sat ks N n [] = satM m p := by
  unfold sat satM
  rw [hN]
  exact List.filter_congr fun x _ => h _
/-- One formula in a new block is a list of formulas. -/
theorem forms_one {w : World} {b B : Nat} {fv : Value} {f : List Int} {t : Nat} (hb : w.heap[b]? = some (.cells #[fv] t (0, 0))) (hB : b < B) (h : Ints w B fv f) : Forms w B (.slice (some ⟨b, 0, none⟩) 1 1) [f] :=
  ⟨fun _ => fv, ⟨_, b, 0, 1, rfl, Nat.le_refl _, .inl ⟨rfl, hB⟩, fun i j hi hj => by
    simp at hi
    obtain rfl : j = 0 := by omega
    subst hi
    exact cellOf hb 0⟩, fun i hi => by
    simp at hi
    subst hi
    exact h⟩
theorem sized_one {f : List Int} (h : f.length ≤ maxLen) : Sized [f] := ⟨by unfold maxLen; simp, fun g hg => by simp at hg; rw [hg]; exact h⟩
/-- After begin and further steps all that was there before is as it was. -/
theorem OpR.low {m : Mo} {w w1 w2 : World} {F F2 : Fo} {n k : Nat} (h : BegR m w w1 F n) (r : OpR k w1 F w2 F2) : Below w.heap.size w w2 := by
  have hb := r.st.below h.here h.base2
  exact ⟨hb.os.trans h.below.os, hb.tape.trans h.below.tape, hb.output.trans h.below.output, Nat.le_trans h.below.size hb.size, fun k hk => (hb.block k (Nat.lt_of_lt_of_le hk h.base)).trans (h.below.block k hk)⟩
theorem BegR.of {m : Mo} {w w0 w1 : World} {F : Fo} {n : Nat} (h : BegR m w0 w1 F n) (hb : Below w.heap.size w w0) : BegR m w w1 F n :=
  ⟨h.here, h.N, Nat.le_trans hb.size h.base, Below.to hb h.below (Nat.le_refl _), h.base2, h.lt, h.ev, h.len, h.nj⟩
theorem BegR.op {m : Mo} {w w1 : World} {F : Fo} {n : Nat} (h : BegR m w w1 F n) : OpR 0 w1 F w1 F := OpR.refl h.here 0
theorem grow_beg {m : Mo} {w w1 w2 : World} {F F1 : Fo} {n k : Nat} {f : List Int} {fv : Value} (h : BegR m w w1 F n) (hN : m.opts.length ≤ 12) (r : OpR k w1 F w2 F1) (hk : k + 100 ≤ 200000) (hf : Ints w w.heap.size fv f) (hv : validF m.opts.length f = true) :
    Calls Try.prog 161 #[.pointer (some ⟨F.p, 0, none⟩), fv] w2
      fun e w' => ∃ g F', e = .returned (.int .i64 (g : Nat)) ∧ OpR (k + 100) w1 F w' F' ∧ OpR 100 w2 F1 w' F' ∧ g < F'.ks.length ∧ ∀ v, ev F'.ks v g = evF1 v f := by
  have hl := (validF_pos hv).2
  have hc := grow_any F1 f fv w2 r.st.here (by rw [r.st.ba]; exact Nat.le_trans h.base2 r.st.keep.size) (by rw [r.st.N, h.N]; exact hv) (by
    rw [r.st.ba]
    exact (hf.below (r.low h)).more h.base) ((h.room hN (k := k + 100) hk |>.step r).mono hl)
  rw [r.st.p] at hc
  refine hc.mono ?_
  rintro e w' ⟨g, F', rfl, r1, r2, r3⟩
  exact ⟨g, F', rfl, r.trans (r1.mono hl), r1.mono hl, r2, r3⟩
end Go.Proofs.Ytmabfnddedffoaa
/- The text of nodes: walk. -/
namespace Go.Proofs.Ytmabfnddedffoaa
open Go.RowKit
set_option linter.unusedVariables false
set_option linter.unusedSimpArgs false
theorem infoRune : (Try.prog.info? 21).map (fun i => (i.zero, i.size, i.bytes)) = some (some (.int .i32 0), 1, 4) := by kernel_rfl
theorem and15 (x : Int) (h0 : 0 ≤ x) (h1 : x < 9223372036854775808) : bits .and .i64 x 32767 = x % 32768 := by
  have h := bits_mask .i64 63 (by decide) wrap_small 15 (by decide) x h0 (by simpa using h1)
  have e : ((2 : Int) ^ 15 - 1) = 32767 := by decide
  have e2 : ((2 : Int) ^ 15) = 32768 := by decide
  rw [e, e2] at h
  exact h
theorem kyL_snoc (l : List Nat) (x : Nat) : kyL (l ++ [x]) = kyL l ++ [((x % 32768 : Nat) : Int), ((x / 32768 % 32768 : Nat) : Int)] := by simp [kyL]
theorem kyL_len (l : List Nat) : (kyL l).length = 2 * l.length := by
  induction l with
  | nil => rfl
  | cons x r ih =>
    show (kyL r).length + 1 + 1 = 2 * (r.length + 1)
    omega
set_option maxRecDepth 100000 in
set_option maxHeartbeats 2000000 in
theorem key_any (l : List Nat) (v : Value) (B : Nat) (w : World) (hl : l.length ≤ 1000) (hs : ∀ n ∈ l, n < 1073741824) (h : Sl w B 1 v l.length (fun i _ => .int .i64 (l.getD i 0 : Nat))) (hB : B ≤ w.heap.size) :
    Calls Try.prog 174 #[v] w fun e w' => e = .returned (.string (kyS l)) ∧ Below w.heap.size w w' := by
  obtain ⟨i0, hi0, iz0, iz1, iz2⟩ := info_parts infoRune
  obtain ⟨A, b, off, cap, rfl, hnc, hA, hc⟩ := h
  have HC := hide hc
  have HA := hide hA
  have HS := hide hs
  clear hc hA hs
  go_enter Try.func174, Try.ntmps174
  go_wp2
  go_loopw [3, 8] (fun x i wr => ∃ k : Nat, k ≤ l.length ∧ i = .int .i64 k ∧ Hid (wr.ownsRow w.heap.size 21 1 x (2 * k) ((kyL (l.take k)).map (Value.int .i32))) ∧ Hid (Below w.heap.size w wr)) (fun _ i _ => l.length - (intOf i).toNat)
  case atStart => exact ⟨0, Nat.zero_le _, rfl, World.ownsRow_nil w w.heap.size 21 1, Below.refl _ _⟩
  case round =>
    obtain ⟨k, hk, rfl, ho, hBw⟩ := hrel
    by_cases hlt : k < l.length
    · obtain ⟨rfl, hbb⟩ : A = some ⟨b, off, none⟩ ∧ b < B := by
        rcases HA.out with h | h
        · exact h
        · omega
      obtain ⟨x, hx⟩ : ∃ x, l.getD k 0 = x := ⟨_, rfl⟩
      have hx30 : x < 1073741824 := HS.out x (by rw [← hx]; exact getD_mem hlt)
      have c0 : wr.cell? ⟨b, off + k, none⟩ = some (.int .i64 (x : Nat)) := by
        have h1 := HC.out k 0 hlt (by omega)
        rw [Nat.mul_one, Nat.add_zero, hx] at h1
        exact (hBw.out.cell (p := ⟨b, off + k, none⟩) (by show b < w.heap.size; omega)).trans h1
      have HX := hide hx
      clear hx
      have hb1 : bits .and .i64 (x : Int) 32767 = ((x % 32768 : Nat) : Int) := by rw [and15 _ (by omega) (by omega)]; omega
      have hb2 : bits .and .i64 ((x : Int) / 32768) 32767 = ((x / 32768 % 32768 : Nat) : Int) := by rw [and15 _ (by omega) (by omega)]; omega
      obtain ⟨y, hy⟩ : ∃ y, x % 32768 = y := ⟨_, rfl⟩
      obtain ⟨z, hz⟩ : ∃ z, x / 32768 % 32768 = z := ⟨_, rfl⟩
      rw [hy] at hb1
      rw [hz] at hb2
      have hy1 : (y : Int) < 32768 := by omega
      have hz1 : (z : Int) < 32768 := by omega
      have hy0 : (0 : Int) ≤ (y : Int) := by omega
      have hz0 : (0 : Int) ≤ (z : Int) := by omega
      have hx0 : (0 : Int) ≤ (x : Int) := by omega
      have hx1 : (x : Int) < 1073741824 := by omega
      have HY := hide (And.intro hy hz)
      have hsz := hBw.out.size
      clear hy hz
      go_wp2_with (at_builtin; go_must (refine wpList_append_own_at _ rfl (.tmp 12) (.tmp 20) _ rfl w.heap.size 21 i0 _ 1 4 Try.underlying200 hi0 iz0 iz1 iz2 rfl (by omega) _ _ _ rfl (ho.out.alloc _) ⟨wr.heap.size, 0, none⟩ 2 2 [.int .i32 y, .int .i32 z] rfl rfl (World.news_of_block (heap_alloc_new wr _)) (by simp [Value.oneCell']) (by unfold maxLen; omega) (by omega) (by simp; omega) ?_); intro v1 w1 hown1 hg1 _ hat1; have HOWN := hide hown1; have HG1 := hide hg1; clear hown1 hg1 hat1)
      go_roundw
      case rel =>
        refine ⟨k + 1, by omega, by go_num, ?_, ?_⟩
        · have h1 := HOWN.out
          rw [take_getD (z := 0) hlt, HX.out, kyL_snoc, HY.out.1, HY.out.2, List.map_append]
          exact h1
        · exact Below.grown (Below.allocT hBw.out (Nat.le_refl _) _) HG1.out (by simp; omega) (fun j hj => (ho.out.lt j hj).1)
      case measure => simp [intOf]; omega
    · obtain rfl : k = l.length := by omega
      have ho2 := ho.out
      rw [List.take_length] at ho2
      rcases ho2.2 with ⟨h1, h2⟩ | ⟨g, cp, cur, h1, h2, h3, h4, h5, h6, h7⟩
      · subst h1
        have hl0 : l = [] := List.length_eq_zero_iff.1 (by omega)
        have hcv : (convert 200 9 (.slice none 0 0)).run Try.prog wr = .ok (.string .empty) wr := run_convert_runes_nil wr 200 9 21 0 0 Try.underlying200 Try.underlying21 Try.underlying9
        have HL := hide hl0
        clear hl0 ho2
        go_wp2
        go_ret
        exact ⟨by rw [HL.out]; rfl, hBw.out⟩
      · subst h1
        have hcell : ∀ j, j < (kyL l).length → wr.cell? ((⟨g, 0, none⟩ : Addr).add j) = some (.int .i32 ((kyL l).getD j 0)) := fun j hj => ho2.cells (g := g) rfl j _ (by simp [hj])
        have hcv : (convert 200 9 (.slice (some ⟨g, 0, none⟩) (2 * l.length) cp)).run Try.prog wr = .ok (.string (runesBytes ((kyL l).take (2 * l.length)))) wr := run_convert_runes wr 200 9 21 ⟨g, 0, none⟩ (2 * l.length) cp (kyL l) (by rw [kyL_len]; omega) Try.underlying200 Try.underlying21 Try.underlying9 hcell
        rw [List.take_of_length_le (by rw [kyL_len]; omega)] at hcv
        clear hcell ho2 h3 h7
        go_wp2
        go_ret
        exact ⟨rfl, hBw.out⟩
end Go.Proofs.Ytmabfnddedffoaa
/- The weigher in memory; a step of it: walk. -/
namespace Go.Proofs.Ytmabfnddedffoaa
open Go.RowKit
open Go.Maps (Keyed)
set_option linter.unusedVariables false
set_option linter.unusedSimpArgs false
/-- The slice v holds the nodes l, below block B. -/
def Nods (w : World) (B : Nat) (v : Value) (l : List Nat) : Prop := Sl w B 1 v l.length (fun i _ => .int .i64 (l.getD i 0 : Nat))
theorem Nods.below {w w' : World} {B : Nat} {v : Value} {l : List Nat} (h : Nods w B v l) (hb : Below B w w') : Nods w' B v l := Sl.below h hb
theorem Nods.up {w w' : World} {v : Value} {l : List Nat} (h : Nods w w.heap.size v l) (hb : Below w.heap.size w w') : Nods w' w'.heap.size v l := Sl.up h hb
theorem Nods.of_own {w : World} {base : Nat} {v : Value} {l : List Nat} (h : w.ownsRow base 3 1 v l.length (l.map fun (n : Nat) => Value.int .i64 n)) : Nods w w.heap.size v l := by
  rcases h.2 with ⟨h1, h2⟩ | ⟨g, cap, cur, h1, h2, h3, h4, h5⟩
  · rw [h1]
    have : l = [] := List.length_eq_zero_iff.1 h2
    subst this
    exact Sl.nil _ _ _ _
  · refine ⟨some ⟨g, 0, none⟩, g, 0, cap, h1, h4, .inl ⟨rfl, box_lt h3⟩, fun i j hi hj => ?_⟩
    have hg : v.ownBlock = some g := by rw [h1]; rfl
    have := h.cells hg i (.int .i64 (l.getD i 0 : Nat)) (by simp [hi])
    have he : (⟨g, 0, none⟩ : Addr).add i = ⟨g, i, none⟩ := by
      unfold Addr.add
      split
      · rename_i h0; rw [h0]
      · rw [Nat.zero_add]
    rw [he] at this
    rw [show 0 + (i * 1 + j) = i by omega]
    exact this
theorem owns_form {w : World} {base e size n : Nat} {v : Value} {xs : List Value} (h : w.ownsRow base e size v n xs) : ∃ A cap, v = .slice A n cap := by
  rcases h.2 with ⟨h1, h2⟩ | ⟨g, cap, cur, h1, _⟩
  · exact ⟨none, 0, by rw [h1, h2]⟩
  · exact ⟨_, _, h1⟩
/-- Lists of small numbers. -/
abbrev SmL := { l : List Nat // ∀ n ∈ l, n < 1073741824 }
def enS (a : SmL) : Value := .string (kyS a.1)
theorem enS_inj (a b : SmL) (h : enS a = enS b) : a = b := by
  unfold enS at h
  injection h with h
  exact Subtype.ext (kyS_inj a.2 b.2 h)
theorem enSKey {a : SmL} (h : a.1.length ≤ 1000) : ∃ l, keyOf Try.prog 9 (enS a) = some l :=
  ⟨_, Go.WideMaps.keyOf_string_mk Try.underlying9 (by have := kyS_size a.1; unfold maxLen; omega)⟩
theorem stLaw : Keyed Try.prog 9 := Maps.string_keyed Try.underlying9
/-- The weigher in memory. -/
structure WgAt (w : World) (F : Fo) (wp : Nat) (wsv : Value) (ws : List Int) (kb cnt : Nat) (m : SmL → Option Int) : Prop where
  box : w.heap[wp]? = some (.cells #[.pointer (some ⟨F.p, 0, none⟩), wsv, .map (some kb)] 178 (0, 0))
  fo : FoAt w F
  wts : Ints w w.heap.size wsv ws
  map : MapIs Try.prog w 9 3 kb cnt enS m
  ok : ∀ a x, m a = some x → x = bestK F.ks F.N a.1 ws []
  nS : ¬ SF F kb
theorem WgAt.ne {w : World} {F : Fo} {wp : Nat} {wsv : Value} {ws : List Int} {kb cnt : Nat} {m : SmL → Option Int} (h : WgAt w F wp wsv ws kb cnt m) : wp ≠ kb := by
  obtain ⟨es, c, h1⟩ := h.map.obj
  intro e
  have h2 := h.box
  rw [e, h1] at h2
  cases h2
theorem WgAt.below {w w' : World} {F : Fo} {wp : Nat} {wsv : Value} {ws : List Int} {kb cnt : Nat} {m : SmL → Option Int} (h : WgAt w F wp wsv ws kb cnt m) (hb : Below w.heap.size w w') : WgAt w' F wp wsv ws kb cnt m :=
  ⟨box_to h.box hb, h.fo.below hb, Ints.up h.wts hb, h.map.same (hb.block _ h.map.lt), h.ok, h.nS⟩
/-- A map that has changed changes no cell. -/
theorem keepsMap {α : Type} {kb cnt cnt' k e : Nat} {enc : α → Value} {m m' : α → Option Int} {w w' : World} (h : Keeps (fun i => i = kb) w w') (h1 : MapIs Try.prog w k e kb cnt enc m) (h2 : MapIs Try.prog w' k e kb cnt' enc m') : ∀ b o, b < w.heap.size → w'.cell? ⟨b, o, none⟩ = w.cell? ⟨b, o, none⟩ := by
  intro b o hb
  by_cases he : b = kb
  · obtain ⟨es, c, q1⟩ := h1.obj
    obtain ⟨es', c', q2⟩ := h2.obj
    subst he
    simp [World.cell?, q1, q2]
  · exact kcell h b o hb he
theorem WgAt.turn {w w' : World} {F : Fo} {wp : Nat} {wsv : Value} {ws : List Int} {kb cnt cnt' : Nat} {m m' : SmL → Option Int} (h : WgAt w F wp wsv ws kb cnt m) (hk : Keeps (fun i => i = kb) w w') (hm : MapIs Try.prog w' 9 3 kb cnt' enS m') (hok : ∀ a x, m' a = some x → x = bestK F.ks F.N a.1 ws []) : WgAt w' F wp wsv ws kb cnt' m' :=
  ⟨(hk.block _ (box_lt h.box) h.ne).trans h.box, h.fo.keeps hk (fun k hs e => h.nS (e ▸ hs)), Sl.more (Sl.keep h.wts (keepsMap hk h.map hm)) hk.size, hm, hok, h.nS⟩
set_option maxRecDepth 100000 in
set_option maxHeartbeats 2000000 in
theorem step_any (F : Fo) (wp : Nat) (wsv : Value) (ws : List Int) (kb cnt : Nat) (m : SmL → Option Int) (l : List Nat) (o : Nat) (b : Bool) (v : Value) (w : World) (h : WgAt w F wp wsv ws kb cnt m) (hl : l.length ≤ 1000) (hs : ∀ n ∈ l, n < F.ks.length) (hn : Nods w w.heap.size v l) :
    Calls Try.prog 163 #[.pointer (some ⟨wp, 0, none⟩), v, .int .i64 o, .bool b] w
      fun e w' => ∃ v', e = .returned v' ∧ Nods w' w'.heap.size v' (l.map fun n => brK F.ks n o b) ∧ Below w.heap.size w w' := by
  obtain ⟨i0, hi0, iz0, iz1, iz2⟩ := info_parts infoInt
  obtain ⟨A, b0, off, cap, rfl, hnc, hA, hc⟩ := hn
  have HC := hide hc
  have HA := hide hA
  have HS := hide hs
  have H := hide h
  clear hc hA hs h
  go_enter Try.func163, Try.ntmps163
  go_wp2
  go_loopw [9, 14] (fun x i wr => ∃ k : Nat, k ≤ l.length ∧ i = .int .i64 k ∧ Hid (wr.ownsRow w.heap.size 3 1 x k (((l.take k).map fun n => brK F.ks n o b).map fun (n : Nat) => Value.int .i64 n)) ∧ Hid (Below w.heap.size w wr)) (fun _ i _ => l.length - (intOf i).toNat)
  case atStart => exact ⟨0, Nat.zero_le _, rfl, World.ownsRow_nil w w.heap.size 3 1, Below.refl _ _⟩
  case round =>
    obtain ⟨k, hk, rfl, ho, hB⟩ := hrel
    by_cases hlt : k < l.length
    · obtain ⟨rfl, hbb⟩ : A = some ⟨b0, off, none⟩ ∧ b0 < w.heap.size := by
        rcases HA.out with h | h
        · exact h
        · omega
      obtain ⟨x, hx⟩ : ∃ x, l.getD k 0 = x := ⟨_, rfl⟩
      have hxl : x < F.ks.length := HS.out x (by rw [← hx]; exact getD_mem hlt)
      have c0 : wr.cell? ⟨b0, off + k, none⟩ = some (.int .i64 (x : Nat)) := by
        have h1 := HC.out k 0 hlt (by omega)
        rw [Nat.mul_one, Nat.add_zero, hx] at h1
        exact (hB.out.cell (p := ⟨b0, off + k, none⟩) hbb).trans h1
      have hwg := H.out.below hB.out
      have d0 := cellOf hwg.box 0
      have hbr := branch_any F x o b wr hwg.fo hxl
      have HBR := hide hbr
      have HX := hide hx
      have hsz := hB.out.size
      clear hx hwg hbr
      go_wp2_with (first | (go_at_call 168; refine HBR.out.mono ?_; rintro e w1 ⟨rfl, hB1⟩; have HB1 := hide hB1; have hsz1 := hB1.size; have ho1 := owns_below ho.out hB1; have HO1 := hide ho1; clear hB1 ho1) | (at_builtin; go_must (refine wpList_append_own_at _ rfl (.tmp 18) (.tmp 27) _ rfl w.heap.size 3 i0 _ 1 8 Try.underlying41 hi0 iz0 iz1 iz2 rfl (by omega) _ _ _ rfl (HO1.out.alloc _) ⟨w1.heap.size, 0, none⟩ 1 1 [.int .i64 (brK F.ks x o b : Nat)] rfl rfl (World.news_of_block (heap_alloc_new w1 _)) (by simp [Value.oneCell']) (by unfold maxLen; omega) (by omega) (by simp; omega) ?_); intro v1 w2 hown1 hg1 _ hat1; have HOWN := hide hown1; have HG1 := hide hg1; clear hown1 hg1 hat1))
      go_roundw
      case rel =>
        refine ⟨k + 1, by omega, by go_num, ?_, ?_⟩
        · have h1 := HOWN.out
          rw [take_getD (z := 0) hlt, HX.out, List.map_append, List.map_append]
          exact h1
        · exact Below.grown (Below.allocT (Below.to hB.out HB1.out (Nat.le_refl _)) (Nat.le_refl _) _) HG1.out (by simp; omega) (fun j hj => (HO1.out.lt j hj).1)
      case measure => simp [intOf]; omega
    · obtain rfl : k = l.length := by omega
      have ho2 := ho.out
      rw [List.take_length] at ho2
      have hf := owns_form ho2
      obtain ⟨A2, cap2, rfl⟩ := hf
      have HO2 := hide ho2
      clear ho2
      go_wp2
      go_ret
      refine ⟨_, rfl, Nods.of_own (base := w.heap.size) ?_, hB.out⟩
      rw [List.length_map]
      exact HO2.out
end Go.Proofs.Ytmabfnddedffoaa
/- What is reached: walks. -/
namespace Go.Proofs.Ytmabfnddedffoaa
open Go.RowKit
set_option linter.unusedVariables false
set_option linter.unusedSimpArgs false
set_option maxRecDepth 100000 in
theorem indexN_any (ns : List Nat) (s : Nat) (v : Value) (B : Nat) (w : World) (hm : ns.length ≤ maxLen) (h : Nods w B v ns) :
    Calls Try.prog 144 #[v, .int .i64 s] w fun e w' => e = .returned (.int .i64 (idxI (fun x => x == s) ns)) ∧ w = w' := by
  unfold maxLen at hm
  obtain ⟨A, b, off, cap, rfl, hnc, hA, hc⟩ := h
  have HC := hide hc
  have HA := hide hA
  clear hc hA
  go_enter Try.func144, Try.ntmps144
  go_wp2
  go_loop [8] (fun i => ∃ k : Nat, k ≤ ns.length ∧ i = .int .i64 k ∧ Hid (∀ j, j < k → (ns.getD j 0 == s) = false)) (fun i => ns.length - (intOf i).toNat)
  case atStart => exact ⟨0, Nat.zero_le _, rfl, fun j hj => by omega⟩
  case round =>
    obtain ⟨k, hk, rfl, hall⟩ := hrel
    by_cases hlt : k < ns.length
    · obtain ⟨rfl, hbb⟩ : A = some ⟨b, off, none⟩ ∧ b < B := by
        rcases HA.out with h | h
        · exact h
        · omega
      obtain ⟨x, hx⟩ : ∃ x, ns.getD k 0 = x := ⟨_, rfl⟩
      have c0 : w.cell? ⟨b, off + k, none⟩ = some (.int .i64 x) := by
        have h1 := HC.out k 0 hlt (by omega)
        rw [Nat.mul_one, Nat.add_zero, hx] at h1
        exact h1
      have HX := hide hx
      clear hx
      by_cases he : x = s
      · have he1 : ((s : Int) == (x : Int)) = true := by simp [he]
        have HE := hide he
        clear he
        go_wp2
        go_ret
        exact ⟨ret_int (idxI_at _ 0 ns k hall.out hlt (by rw [HX.out, HE.out]; simp)).symm, rfl⟩
      · have he1 : ((s : Int) == (x : Int)) = false := by simp; omega
        have he2 : ¬ (s : Int) = (x : Int) := by omega
        have HE := hide he
        clear he
        go_wp2
        go_round
        case rel => exact ⟨k + 1, by omega, by go_num, fun j hj => by
            rcases Nat.lt_or_ge j k with h | h
            · exact hall.out j h
            · rw [show j = k from by omega, HX.out]; simpa using HE.out⟩
        case measure => simp [intOf]; omega
    · go_wp2
      go_ret
      exact ⟨ret_int (idxI_none _ 0 ns (fun j hj => hall.out j (by omega))).symm, rfl⟩
set_option maxRecDepth 100000 in
theorem containsN_any (ns : List Nat) (s : Nat) (v : Value) (B : Nat) (w : World) (c : Bool) (hm : ns.length ≤ maxLen) (h : Nods w B v ns) (hc : decide (s ∈ ns) = c) :
    Calls Try.prog 99 #[v, .int .i64 s] w fun e w' => e = .returned (.bool c) ∧ w = w' := by
  have he : c = decide (0 ≤ idxI (fun x => x == s) ns) := by
    rw [idxI_any, ← hc, Bool.eq_iff_iff]
    simp
  have HE := hide he
  have H := hide h
  clear he h hc
  go_enter Try.func99, Try.ntmps99
  go_wp2_with (go_at_call 144; refine (indexN_any ns s v B _ hm H.out).mono ?_; rintro e w1 ⟨rfl, rfl⟩)
  go_ret
  exact ⟨ret_bool HE.out.symm, rfl⟩
theorem ownsNot {w : World} {b1 e1 s1 n1 g t : Nat} {v1 : Value} {x1 : List Value} {C : Array Value} (h1 : w.ownsRow b1 e1 s1 v1 n1 x1) (hg : w.heap[g]? = some (.cells C t (0, 0))) (hne : e1 ≠ t) : v1.ownBlock ≠ some g := by
  intro hb
  obtain ⟨_, ⟨rfl, _⟩ | ⟨g', cap, cur, rfl, _, q1, _⟩⟩ := h1
  · cases hb
  · injection hb with hb
    simp only at hb
    subst hb
    rw [q1] at hg
    injection hg with hg
    injection hg with _ hg
    exact hne hg
/-- A list of numbers in a row of the call's own, beside a boxed loom. -/
structure ReaS (w0 wr : World) (B lb : Nat) (A0 A1 A2 A3 A4 A5 : Option Addr) (q0 q1 q2 q3 q4 q5 : Nat) (l : Lo) (v : Value) (S : List Nat) : Prop where
  below : Below w0.heap.size w0 wr
  box : LoBox wr lb A0 A1 A2 A3 A4 A5 q0 q1 q2 q3 q4 q5 l
  own : wr.ownsRow B 3 1 v S.length (S.map fun (n : Nat) => Value.int .i64 n)
  nd : Nods wr wr.heap.size v S
  lt : w0.heap.size ≤ B ∧ B ≤ wr.heap.size
section
variable {w0 wr w' : World} {B lb : Nat} {A0 A1 A2 A3 A4 A5 : Option Addr} {q0 q1 q2 q3 q4 q5 : Nat} {l : Lo} {v v1 : Value} {S : List Nat} {m : Nat} {o : Obj}
theorem ReaS.mk' (h1 : Below w0.heap.size w0 wr) (h2 : LoBox wr lb A0 A1 A2 A3 A4 A5 q0 q1 q2 q3 q4 q5 l) (h3 : wr.ownsRow B 3 1 v S.length (S.map fun (n : Nat) => Value.int .i64 n)) (h4 : w0.heap.size ≤ B ∧ B ≤ wr.heap.size) : ReaS w0 wr B lb A0 A1 A2 A3 A4 A5 q0 q1 q2 q3 q4 q5 l v S :=
  ⟨h1, h2, h3, Nods.of_own h3, h4⟩
theorem ReaS.to (h : ReaS w0 wr B lb A0 A1 A2 A3 A4 A5 q0 q1 q2 q3 q4 q5 l v S) (hb : Below wr.heap.size wr w') : ReaS w0 w' B lb A0 A1 A2 A3 A4 A5 q0 q1 q2 q3 q4 q5 l v S :=
  ⟨Below.to h.below hb (Nat.le_refl _), box_to h.box hb, owns_below h.own hb, h.nd.up hb, h.lt.1, Nat.le_trans h.lt.2 hb.size⟩
theorem ReaS.push (h : ReaS w0 wr B lb A0 A1 A2 A3 A4 A5 q0 q1 q2 q3 q4 q5 l v S) (hown : w'.ownsRow B 3 1 v1 (S.length + 1) ((S.map fun (n : Nat) => Value.int .i64 n) ++ [.int .i64 (m : Nat)])) (hg : (wr.alloc o).grownBy w' v.ownBlock) : ReaS w0 w' B lb A0 A1 A2 A3 A4 A5 q0 q1 q2 q3 q4 q5 l v1 (S ++ [m]) := by
  have hB : Below wr.heap.size wr (wr.alloc o) := (Below.refl _ _).alloc (Nat.le_refl _) _
  have hlow : ∀ k, v.ownBlock = some k → B ≤ k := fun k hk => (h.own.lt k hk).1
  refine ReaS.mk' ?_ ?_ ?_ ⟨h.lt.1, ?_⟩
  · exact Below.grown (Below.to h.below hB (Nat.le_refl _)) hg (by have := h.below.size; simp; omega) (fun k hk => Nat.le_trans h.lt.1 (hlow k hk))
  · exact (hg.block lb (by have := box_lt h.box; simp; omega) (fun e => ownsNot h.own h.box (by decide) e.symm)).trans (box_to h.box hB)
  · rw [List.length_append, List.length_singleton, List.map_append]; exact hown
  · have := hg.size
    simp at this
    have := h.lt.2
    omega
end
end Go.Proofs.Ytmabfnddedffoaa

/- Part 16 of this claim's texts: walks and plain laws. -/
import Derived.Test.YtehadoecnmfeoaaGreatRows
set_option linter.unusedVariables false
set_option linter.unusedSimpArgs false
set_option linter.unusedSectionVars false
namespace Go.Proofs.YtehadoecnmfeoaaGreat
inductive Rch (rs : List (Nat × Nat)) (w : Int) (s : Nat) : Nat → Prop
 | base : Rch rs w s s
 | fwd {x y k : Nat} : Rch rs w s x → k < rs.length → (k : Int) ≠ w → rs.getD k (0, 0) = (x, y) → Rch rs w s y
 | bwd {x y k : Nat} : Rch rs w s x → k < rs.length → (k : Int) ≠ w → rs.getD k (0, 0) = (y, x) → Rch rs w s y
def stepA (w : Int) (x : Nat) (out : List Nat) (k : Nat) (a b : Nat) : List Nat := if (k : Int) ≠ w ∧ a = x ∧ b ∉ out then out ++ [b] else out
def stepR (w : Int) (x : Nat) (out : List Nat) (k : Nat) (r : Nat × Nat) : List Nat := stepA w x (stepA w x out k r.1 r.2) k r.2 r.1
def scanR (rs : List (Nat × Nat)) (w : Int) (x : Nat) (out : List Nat) : Nat → List Nat
 | 0 => out
 | k + 1 => stepR w x (scanR rs w x out k) k (rs.getD k (0, 0))
def stR (rs : List (Nat × Nat)) (w : Int) (s : Nat) : Nat → List Nat
 | 0 => [s]
 | i + 1 => if i < (stR rs w s i).length then scanR rs w ((stR rs w s i).getD i 0) (stR rs w s i) rs.length else stR rs w s i
theorem stepA_pre (w : Int) (x : Nat) (out : List Nat) (k a b : Nat) : out <+: stepA w x out k a b := by
 unfold stepA
 split
 ·
  exact List.prefix_append _ _
 ·
  exact List.prefix_rfl
theorem stepR_pre (w : Int) (x : Nat) (out : List Nat) (k : Nat) (r : Nat × Nat) : out <+: stepR w x out k r := (stepA_pre ..).trans (stepA_pre ..)
theorem scanR_pre (rs : List (Nat × Nat)) (w : Int) (x : Nat) (out : List Nat) : ∀ k, out <+: scanR rs w x out k
 | 0 => List.prefix_rfl
 | k + 1 => (scanR_pre rs w x out k).trans (stepR_pre ..)
theorem scanR_pre' (rs : List (Nat × Nat)) (w : Int) (x : Nat) (out : List Nat) {j k : Nat} (h : j ≤ k) : scanR rs w x out j <+: scanR rs w x out k := by
 induction k with
 | zero => rw [show j = 0 by omega]; exact List.prefix_rfl
 | succ k ih =>
  rcases Nat.lt_or_ge j (k + 1) with h1 | h1
  ·
   exact (ih (by omega)).trans (stepR_pre ..)
  ·
   rw [show j = k + 1 by omega]; exact List.prefix_rfl
theorem stR_pre1 (rs : List (Nat × Nat)) (w : Int) (s : Nat) (i : Nat) : stR rs w s i <+: stR rs w s (i + 1) := by
 show _ <+: (if _ then _ else _)
 split
 ·
  exact scanR_pre ..
 ·
  exact List.prefix_rfl
theorem stR_pre (rs : List (Nat × Nat)) (w : Int) (s : Nat) {i j : Nat} (h : i ≤ j) : stR rs w s i <+: stR rs w s j := by
 induction j with
 | zero => rw [show i = 0 by omega]; exact List.prefix_rfl
 | succ j ih =>
  rcases Nat.lt_or_ge i (j + 1) with h1 | h1
  ·
   exact (ih (by omega)).trans (stR_pre1 ..)
  ·
   rw [show i = j + 1 by omega]; exact List.prefix_rfl
theorem stepA_nodup {w : Int} {x : Nat} {out : List Nat} {k a b : Nat} (h : out.Nodup) : (stepA w x out k a b).Nodup := by
 unfold stepA
 split
 ·
  rename_i h1
  rw [List.nodup_append]
  exact ⟨h, by simp, fun y hy z hz => by simp at hz; subst hz; exact fun e => h1.2.2 (e ▸ hy)⟩
 ·
  exact h
theorem scanR_nodup {rs : List (Nat × Nat)} {w : Int} {x : Nat} {out : List Nat} (h : out.Nodup) : ∀ k, (scanR rs w x out k).Nodup
 | 0 => h
 | k + 1 => stepA_nodup (stepA_nodup (scanR_nodup h k))
theorem stR_nodup (rs : List (Nat × Nat)) (w : Int) (s : Nat) : ∀ i, (stR rs w s i).Nodup
 | 0 => by simp [stR]
 | i + 1 => by
  show List.Nodup (if _ then _ else _)
  split
  ·
   exact scanR_nodup (stR_nodup rs w s i) _
  ·
   exact stR_nodup rs w s i
theorem scanR_rch {rs : List (Nat × Nat)} {w : Int} {s x : Nat} {out : List Nat} (h : ∀ y ∈ out, Rch rs w s y) (hx : Rch rs w s x) : ∀ k, k ≤ rs.length → ∀ y ∈ scanR rs w x out k, Rch rs w s y
 | 0, _, y, hy => h y hy
 | k + 1, hk, y, hy => by
  have ih := scanR_rch h hx k (by omega)
  obtain ⟨a, b, hr⟩ : ∃ a b, rs.getD k (0, 0) = (a, b) := ⟨_, _, rfl⟩
  have hy' : y ∈ stepA w x (stepA w x (scanR rs w x out k) k (rs.getD k (0, 0)).1 (rs.getD k (0, 0)).2) k (rs.getD k (0, 0)).2 (rs.getD k (0, 0)).1 := hy
  rw [hr] at hy'
  unfold stepA at hy'
  simp only at hy'
  have key : ∀ L : List Nat, (∀ z ∈ L, Rch rs w s z) → ∀ c d : Nat, (rs.getD k (0, 0) = (c, d) ∨ rs.getD k (0, 0) = (d, c)) → ∀ z ∈ (if (k : Int) ≠ w ∧ c = x ∧ d ∉ L then L ++ [d] else L), Rch rs w s z := by
   intro L hL c d hcd z hz
   split at hz
   ·
    rename_i h1
    rcases List.mem_append.1 hz with h2 | h2
    ·
     exact hL z h2
    ·
     simp at h2
     subst h2
     obtain ⟨h3, rfl, _⟩ := h1
     rcases hcd with h4 | h4
     ·
      exact .fwd hx (by omega) h3 h4
     ·
      exact .bwd hx (by omega) h3 h4
   ·
    exact hL z hz
  exact key _ (key _ ih a b (.inl hr)) b a (.inr hr) y hy'
theorem lGetD_mem {l : List Nat} {i : Nat} (h : i < l.length) : l.getD i 0 ∈ l := by
 rw [List.getD_eq_getElem?_getD, List.getElem?_eq_getElem h]
 exact List.getElem_mem h
theorem stR_rch (rs : List (Nat × Nat)) (w : Int) (s : Nat) : ∀ i, ∀ y ∈ stR rs w s i, Rch rs w s y
 | 0, y, hy => by simp [stR] at hy; subst hy; exact .base
 | i + 1, y, hy => by
  have ih := stR_rch rs w s i
  have hy' : y ∈ (if i < (stR rs w s i).length then scanR rs w ((stR rs w s i).getD i 0) (stR rs w s i) rs.length else stR rs w s i) := hy
  split at hy'
  ·
   rename_i h1
   exact scanR_rch ih (ih _ (lGetD_mem h1)) _ (Nat.le_refl _) y hy'
  ·
   exact ih y hy'
theorem stepA_has {w : Int} {x : Nat} {out : List Nat} {k a b : Nat} (h : (k : Int) ≠ w) (ha : a = x) : b ∈ stepA w x out k a b := by
 unfold stepA
 by_cases hb : b ∈ out
 ·
  rw [if_neg (fun q => q.2.2 hb)]; exact hb
 ·
  rw [if_pos ⟨h, ha, hb⟩]; simp
theorem scanR_has {rs : List (Nat × Nat)} {w : Int} {x : Nat} {out : List Nat} {k : Nat} (hk : k < rs.length) (h : (k : Int) ≠ w) {a b : Nat} (hr : rs.getD k (0, 0) = (a, b)) :
  (a = x → b ∈ scanR rs w x out rs.length) ∧ (b = x → a ∈ scanR rs w x out rs.length) := by
 have hp := scanR_pre' rs w x out (show k + 1 ≤ rs.length by omega)
 have e : scanR rs w x out (k + 1) = stepA w x (stepA w x (scanR rs w x out k) k a b) k b a := by
  show stepR _ _ _ _ _ = _
  rw [hr]; rfl
 rw [e] at hp
 exact ⟨fun ha => hp.subset ((stepA_pre ..).subset (stepA_has h ha)), fun hb => hp.subset (stepA_has h hb)⟩
theorem pre_getD {l m : List Nat} (h : l <+: m) {i : Nat} (hi : i < l.length) : m.getD i 0 = l.getD i 0 := by
 obtain ⟨t, rfl⟩ := h
 simp [List.getD_eq_getElem?_getD, List.getElem?_append_left hi]
theorem stR_closed {rs : List (Nat × Nat)} {w : Int} {s : Nat} {i j : Nat} (hj : j < i) (hl : j < (stR rs w s i).length) {k : Nat} (hk : k < rs.length) (h : (k : Int) ≠ w) {a b : Nat} (hr : rs.getD k (0, 0) = (a, b)) :
  (a = (stR rs w s i).getD j 0 → b ∈ stR rs w s i) ∧ (b = (stR rs w s i).getD j 0 → a ∈ stR rs w s i) := by
 induction i with
 | zero => omega
 | succ i ih =>
  have e : stR rs w s (i + 1) = if i < (stR rs w s i).length then scanR rs w ((stR rs w s i).getD i 0) (stR rs w s i) rs.length else stR rs w s i := rfl
  have hp := stR_pre1 rs w s i
  rcases Nat.lt_or_ge j i with h1 | h1
  ·
   by_cases h2 : j < (stR rs w s i).length
   ·
    obtain ⟨q1, q2⟩ := ih h1 h2
    rw [pre_getD hp h2]
    exact ⟨fun q => hp.subset (q1 q), fun q => hp.subset (q2 q)⟩
   ·
    rw [if_neg (by omega)] at e
    rw [e] at hl
    exact absurd hl h2
  ·
   obtain rfl : j = i := by omega
   by_cases h2 : j < (stR rs w s j).length
   ·
    rw [pre_getD hp h2]
    rw [e, if_pos h2]
    exact scanR_has hk h hr
   ·
    rw [if_neg h2] at e
    rw [e] at hl
    exact absurd hl h2
theorem stR_all {rs : List (Nat × Nat)} {w : Int} {s i : Nat} (hi : (stR rs w s i).length ≤ i) (y : Nat) : y ∈ stR rs w s i ↔ Rch rs w s y := by
 refine ⟨stR_rch rs w s i y, fun h => ?_⟩
 induction h with
 | base =>
  have hp := stR_pre rs w s (Nat.zero_le i)
  exact hp.subset (by simp [stR])
 | fwd _ hk hw hr ih =>
  obtain ⟨j, hj, e⟩ := List.getElem_of_mem ih
  exact (stR_closed (show j < i by omega) hj hk hw hr).1 (by simp [List.getD_eq_getElem?_getD, hj, e])
 | bwd _ hk hw hr ih =>
  obtain ⟨j, hj, e⟩ := List.getElem_of_mem ih
  exact (stR_closed (show j < i by omega) hj hk hw hr).2 (by simp [List.getD_eq_getElem?_getD, hj, e])
theorem rch_lt {rs : List (Nat × Nat)} {w : Int} {s n y : Nat} (hs : s < n) (hrs : ∀ k, k < rs.length → (rs.getD k (0, 0)).1 < n ∧ (rs.getD k (0, 0)).2 < n) (h : Rch rs w s y) : y < n := by
 induction h with
 | base => exact hs
 | fwd _ hk _ hr _ => have := (hrs _ hk).2; rw [hr] at this; exact this
 | bwd _ hk _ hr _ => have := (hrs _ hk).1; rw [hr] at this; exact this
theorem nodup_sub : ∀ {l m : List Nat}, l.Nodup → l ⊆ m → l.length ≤ m.length
 | [], _, _, _ => Nat.zero_le _
 | a :: t, m, hd, h => by
  have hm : a ∈ m := h (List.mem_cons_self ..)
  have ht := nodup_sub (m := m.erase a) (List.nodup_cons.1 hd).2 fun y hy => (List.mem_erase_of_ne (fun e : y = a => (List.nodup_cons.1 hd).1 (by rw [← e]; exact hy))).2 (h (List.mem_cons_of_mem _ hy))
  rw [List.length_erase_of_mem hm] at ht
  have := List.length_pos_of_mem hm
  show t.length + 1 ≤ _
  omega
theorem nodup_len {l : List Nat} {n : Nat} (hd : l.Nodup) (h : ∀ y ∈ l, y < n) : l.length ≤ n := by
 have h1 : l ⊆ List.range n := fun y hy => by simpa using h y hy
 simpa using nodup_sub hd h1
theorem stR_len {rs : List (Nat × Nat)} {w : Int} {s n : Nat} (hs : s < n) (hrs : ∀ k, k < rs.length → (rs.getD k (0, 0)).1 < n ∧ (rs.getD k (0, 0)).2 < n) (i : Nat) : (stR rs w s i).length ≤ n :=
 nodup_len (stR_nodup ..) fun y hy => rch_lt hs hrs (stR_rch rs w s i y hy)
theorem stR_full {rs : List (Nat × Nat)} {w : Int} {s n i : Nat} (hs : s < n) (hrs : ∀ k, k < rs.length → (rs.getD k (0, 0)).1 < n ∧ (rs.getD k (0, 0)).2 < n) (hi : (stR rs w s i).length ≤ i) : (stR rs w s i).length = n ↔ ∀ y, y < n → Rch rs w s y := by
 constructor
 ·
  intro h y hy
  rw [← stR_all hi]
  refine Decidable.byContradiction fun hn => ?_
  have h2 : (y :: stR rs w s i).Nodup := List.nodup_cons.2 ⟨hn, stR_nodup ..⟩
  have h3 := nodup_len h2 fun z hz => by
   rcases List.mem_cons.1 hz with rfl | hz
   ·
    exact hy
   ·
    exact rch_lt hs hrs (stR_rch rs w s i z hz)
  simp only [List.length_cons] at h3
  omega
 ·
  intro h
  have h1 : List.range n ⊆ stR rs w s i := fun y hy => (stR_all hi y).2 (h y (by simpa using hy))
  have h2 := nodup_sub List.nodup_range h1
  have h3 := stR_len (w := w) hs hrs i
  simp at h2
  omega
theorem Rch.trans {rs : List (Nat × Nat)} {w : Int} {s x y : Nat} (h : Rch rs w s x) (k : Rch rs w x y) : Rch rs w s y := by
 induction k with
 | base => exact h
 | fwd _ hk hw hr ih => exact .fwd ih hk hw hr
 | bwd _ hk hw hr ih => exact .bwd ih hk hw hr
theorem Rch.symm {rs : List (Nat × Nat)} {w : Int} {s y : Nat} (h : Rch rs w s y) : Rch rs w y s := by
 induction h with
 | base => exact .base
 | fwd _ hk hw hr ih => exact (Rch.bwd .base hk hw hr).trans ih
 | bwd _ hk hw hr ih => exact (Rch.fwd .base hk hw hr).trans ih
def lab (rs : List (Nat × Nat)) (w : Int) : Nat → Nat → Nat
 | 0, y => y
 | k + 1, y => if (k : Int) = w then lab rs w k y else if lab rs w k y = lab rs w k (rs.getD k (0, 0)).1 then lab rs w k (rs.getD k (0, 0)).2 else lab rs w k y
theorem lab_edge {rs : List (Nat × Nat)} {w : Int} : ∀ {k j : Nat}, j < k → (j : Int) ≠ w → ∀ {a b : Nat}, rs.getD j (0, 0) = (a, b) → lab rs w k a = lab rs w k b
 | 0, j, h, _, _, _, _ => by omega
 | k + 1, j, h, hw, a, b, hr => by
  rcases Nat.lt_or_ge j k with h1 | h1
  ·
   have ih := lab_edge (rs := rs) (w := w) h1 hw hr
   simp only [lab]
   rw [ih]
  ·
   obtain rfl : j = k := by omega
   simp only [lab, if_neg hw, hr, if_true]
   by_cases h2 : lab rs w j b = lab rs w j a
   ·
    rw [if_pos h2]
   ·
    rw [if_neg h2]
theorem lab_rch {rs : List (Nat × Nat)} {w : Int} {s y : Nat} (h : Rch rs w s y) : lab rs w rs.length s = lab rs w rs.length y := by
 induction h with
 | base => rfl
 | fwd _ hk hw hr ih => rw [ih, lab_edge hk hw hr]
 | bwd _ hk hw hr ih => rw [ih, lab_edge hk hw hr]
theorem countP_near {p q : Nat → Bool} {c : Nat} : ∀ {l : List Nat}, l.Nodup → (∀ x, x ≠ c → p x = true → q x = true) → l.countP p ≤ l.countP q + 1
 | [], _, _ => by simp
 | a :: l, hd, h => by
  obtain ⟨h1, h2⟩ := List.nodup_cons.1 hd
  by_cases ha : a = c
  ·
   subst ha
   have h3 : l.countP p ≤ l.countP q := List.countP_mono_left fun x hx hp => h x (fun e => h1 (e ▸ hx)) hp
   simp only [List.countP_cons]
   split <;> split <;> omega
  ·
   have ih := countP_near h2 h
   simp only [List.countP_cons]
   split
   ·
    rename_i hp
    rw [if_pos (h a ha hp)]
    omega
   ·
    split <;> omega
def takenN (w : Int) : Nat → Nat
 | 0 => 0
 | k + 1 => if (k : Int) = w then takenN w k else takenN w k + 1
theorem taken_but (j : Nat) : ∀ k, (k ≤ j → takenN j k = k) ∧ (j < k → takenN j k + 1 = k)
 | 0 => ⟨fun _ => rfl, fun h => by omega⟩
 | k + 1 => by
  obtain ⟨h1, h2⟩ := taken_but j k
  simp only [takenN]
  constructor
  ·
   intro h
   rw [if_neg (by omega), h1 (by omega)]
  ·
   intro h
   by_cases hk : k = j
   ·
    subst hk
    rw [if_pos rfl, h1 (Nat.le_refl _)]
   ·
    rw [if_neg (by omega)]
    have := h2 (by omega)
    omega
def rootsN (rs : List (Nat × Nat)) (w : Int) (n k : Nat) : Nat := (List.range n).countP fun x => decide (lab rs w k x = x)
theorem roots_many (rs : List (Nat × Nat)) (w : Int) (n : Nat) : ∀ k, n ≤ rootsN rs w n k + takenN w k
 | 0 => by
  have h : rootsN rs w n 0 = (List.range n).length := List.countP_eq_length.2 fun x _ => by simp [lab]
  rw [h]
  simp
 | k + 1 => by
  have ih := roots_many rs w n k
  by_cases hw : (k : Int) = w
  ·
   have e : rootsN rs w n (k + 1) = rootsN rs w n k := by simp only [rootsN, lab, if_pos hw]
   simp only [takenN, if_pos hw]
   omega
  ·
   simp only [takenN, if_neg hw]
   have h1 : rootsN rs w n k ≤ rootsN rs w n (k + 1) + 1 := by
    refine countP_near (c := lab rs w k (rs.getD k (0, 0)).1) List.nodup_range fun x hx hp => ?_
    simp only [decide_eq_true_eq] at hp ⊢
    simp only [lab, if_neg hw]
    rw [hp, if_neg hx]
   omega
theorem two_of_count {p : Nat → Bool} : ∀ {l : List Nat}, l.Nodup → 2 ≤ l.countP p → ∃ x y, x ∈ l ∧ y ∈ l ∧ x ≠ y ∧ p x = true ∧ p y = true
 | [], _, h => by simp at h
 | a :: l, hd, h => by
  obtain ⟨h1, h2⟩ := List.nodup_cons.1 hd
  by_cases ha : p a = true
  ·
   rw [List.countP_cons, if_pos ha] at h
   have h3 : 0 < l.countP p := by omega
   obtain ⟨y, hy, hp⟩ := List.countP_pos_iff.1 h3
   exact ⟨a, y, List.mem_cons_self .., List.mem_cons_of_mem _ hy, fun e => h1 (e ▸ hy), ha, hp⟩
  ·
   rw [List.countP_cons, if_neg ha] at h
   obtain ⟨x, y, hx, hy, q⟩ := two_of_count h2 (by omega)
   exact ⟨x, y, List.mem_cons_of_mem _ hx, List.mem_cons_of_mem _ hy, q⟩
structure TreeR (rs : List (Nat × Nat)) (n : Nat) : Prop where
 len : rs.length + 1 = n
 lt : ∀ k, k < rs.length → (rs.getD k (0, 0)).1 < n ∧ (rs.getD k (0, 0)).2 < n
 all : ∀ y, y < n → Rch rs (-1) 0 y
theorem TreeR.bridge {rs : List (Nat × Nat)} {n : Nat} (h : TreeR rs n) {j : Nat} (hj : j < rs.length) {a b : Nat} (hr : rs.getD j (0, 0) = (a, b)) : ¬ Rch rs j a b := by
 intro hab
 have hre : ∀ y, Rch rs (-1) 0 y → Rch rs j 0 y := by
  intro y hy
  induction hy with
  | base => exact .base
  | @fwd x y k _ hk _ hr' ih =>
   by_cases hkj : k = j
   ·
    subst hkj
    rw [hr] at hr'
    injection hr' with e1 e2
    subst e1 e2
    exact ih.trans hab
   ·
    exact .fwd ih hk (by omega) hr'
  | @bwd x y k _ hk _ hr' ih =>
   by_cases hkj : k = j
   ·
    subst hkj
    rw [hr] at hr'
    injection hr' with e1 e2
    subst e1 e2
    exact ih.trans hab.symm
   ·
    exact .bwd ih hk (by omega) hr'
 have h1 := roots_many rs (j : Int) n rs.length
 have h2 := (taken_but j rs.length).2 hj
 have h3 := h.len
 obtain ⟨x, y, hx, hy, hne, hp, hq⟩ := two_of_count List.nodup_range (show 2 ≤ rootsN rs (j : Int) n rs.length by omega)
 simp only [decide_eq_true_eq] at hp hq
 have e1 := lab_rch (hre x (h.all x (by simpa using hx)))
 have e2 := lab_rch (hre y (h.all y (by simpa using hy)))
 exact hne (by rw [← hp, ← hq, ← e1, ← e2])
theorem TreeR.all' {rs : List (Nat × Nat)} {n : Nat} (h : TreeR rs n) {x y : Nat} (hx : x < n) (hy : y < n) : Rch rs (-1) x y := (h.all x hx).symm.trans (h.all y hy)
def Inc (rs : List (Nat × Nat)) (k x y : Nat) : Prop := rs.getD k (0, 0) = (x, y) ∨ rs.getD k (0, 0) = (y, x)
theorem Inc.symm {rs : List (Nat × Nat)} {k x y : Nat} (h : Inc rs k x y) : Inc rs k y x := Or.symm h
theorem Rch.step {rs : List (Nat × Nat)} {w : Int} {s x y k : Nat} (h : Rch rs w s x) (hk : k < rs.length) (hw : (k : Int) ≠ w) (hi : Inc rs k x y) : Rch rs w s y := by
 rcases hi with hi | hi
 ·
  exact .fwd h hk hw hi
 ·
  exact .bwd h hk hw hi
section
variable {rs : List (Nat × Nat)} {n : Nat} (T : TreeR rs n)
include T
theorem TreeR.apart {k x y : Nat} (hk : k < rs.length) (h : Inc rs k x y) : ¬ Rch rs k x y := by
 rcases h with h | h
 ·
  exact T.bridge hk h
 ·
  exact fun q => T.bridge hk h q.symm
theorem TreeR.inc_lt {k x y : Nat} (hk : k < rs.length) (h : Inc rs k x y) : x < n ∧ y < n := by
 have h1 := T.lt k hk
 rcases h with h | h <;> rw [h] at h1
 ·
  exact h1
 ·
  exact ⟨h1.2, h1.1⟩
end
open Classical in
noncomputable def sideN (rs : List (Nat × Nat)) (n : Nat) (w : Int) (x : Nat) : Nat := (List.range n).countP fun z => decide (Rch rs w x z)
section
variable {rs : List (Nat × Nat)} {n : Nat} (T : TreeR rs n)
include T
end
inductive WayP (rs : List (Nat × Nat)) : Int → Nat → List Nat → Nat → Prop
 | nil {w : Int} {x : Nat} : WayP rs w x [] x
 | cons {w : Int} {x y z k : Nat} {P : List Nat} : k < rs.length → (k : Int) ≠ w → Inc rs k x y → x ≠ z → Rch rs k y z → WayP rs k y P z → WayP rs w x (k :: P) z
def sumN (f : Nat → Int) : Nat → Int
 | 0 => 0
 | k + 1 => sumN f k + f k
theorem sumN_congr {f g : Nat → Int} : ∀ {m : Nat}, (∀ k, k < m → f k = g k) → sumN f m = sumN g m
 | 0, _ => rfl
 | m + 1, h => by
  show sumN f m + f m = sumN g m + g m
  rw [sumN_congr fun k hk => h k (by omega), h m (by omega)]
theorem sumN_add (f g : Nat → Int) : ∀ m, sumN (fun k => f k + g k) m = sumN f m + sumN g m
 | 0 => rfl
 | m + 1 => by
  show sumN _ m + (f m + g m) = sumN f m + f m + (sumN g m + g m)
  rw [sumN_add f g m]; omega
theorem sumN_zero : ∀ m, sumN (fun _ => 0) m = 0
 | 0 => rfl
 | m + 1 => by show sumN _ m + 0 = 0; rw [sumN_zero m]; rfl
theorem sumN_one (c : Nat) (v : Int) : ∀ m, sumN (fun k => if k = c then v else 0) m = if c < m then v else 0
 | 0 => by simp [sumN]
 | m + 1 => by
  show sumN _ m + (if m = c then v else 0) = _
  rw [sumN_one c v m]
  by_cases h1 : c < m
  ·
   rw [if_pos h1, if_neg (by omega), if_pos (by omega)]; omega
  ·
   by_cases h2 : m = c
   ·
    rw [if_neg h1, if_pos h2, if_pos (by omega)]; omega
   ·
    rw [if_neg h1, if_neg h2, if_neg (by omega)]; omega
open Classical in
noncomputable def distN (rs : List (Nat × Nat)) (f : Nat → Int) (x z : Nat) : Int := sumN (fun k => if Rch rs k x z then 0 else f k) rs.length
theorem rch_edge {rs : List (Nat × Nat)} {j k a b z : Nat} (hk : k < rs.length) (hi : Inc rs k a b) (h : j ≠ k) : Rch rs j a z ↔ Rch rs j b z :=
 ⟨fun q => (Rch.step .base hk (by omega) hi.symm).trans q, fun q => (Rch.step .base hk (by omega) hi).trans q⟩
section
variable {rs : List (Nat × Nat)} {n : Nat} (T : TreeR rs n)
include T
theorem TreeR.sides {k a b : Nat} (hk : k < rs.length) (hi : Inc rs k a b) {z : Nat} (hz : z < n) : Rch rs k a z ∨ Rch rs k b z := by
 have key : ∀ {u v j : Nat}, (Rch rs k a u ∨ Rch rs k b u) → j < rs.length → Inc rs j u v → Rch rs k a v ∨ Rch rs k b v := by
  intro u v j ih hj hju
  by_cases hjk : j = k
  ·
   subst hjk
   have h3 : (u = a ∧ v = b) ∨ (u = b ∧ v = a) := by
    rcases hju with h1 | h1 <;> rcases hi with h2 | h2 <;> rw [h1] at h2 <;> injection h2 with e1 e2 <;> simp_all
   rcases h3 with ⟨_, rfl⟩ | ⟨_, rfl⟩
   ·
    exact .inr .base
   ·
    exact .inl .base
  ·
   rcases ih with h | h
   ·
    exact .inl (h.step hj (by omega) hju)
   ·
    exact .inr (h.step hj (by omega) hju)
 have h := T.all' (T.inc_lt hk hi).1 hz
 induction h with
 | base => exact .inl .base
 | @fwd x y j hx hj _ hr ih => exact key (ih (by have := T.lt j hj; rw [hr] at this; exact this.1)) hj (.inl hr)
 | @bwd x y j hx hj _ hr ih => exact key (ih (by have := T.lt j hj; rw [hr] at this; exact this.2)) hj (.inr hr)
open Classical in
theorem TreeR.dist_edge {k a b s : Nat} (hk : k < rs.length) (hi : Inc rs k a b) (f : Nat → Int) (h : Rch rs k a s) : distN rs f b s = distN rs f a s + f k := by
 have hn : ¬ Rch rs k b s := fun q => T.apart hk hi (h.trans q.symm)
 have e : distN rs f b s = sumN (fun j => (if Rch rs j a s then 0 else f j) + (if j = k then f k else 0)) rs.length := by
  unfold distN
  refine sumN_congr fun j hj => ?_
  by_cases hjk : j = k
  ·
   subst hjk
   rw [if_neg hn, if_pos h, if_pos rfl]; omega
  ·
   rw [if_neg hjk]
   by_cases hq : Rch rs j a s
   ·
    rw [if_pos hq, if_pos ((rch_edge hk hi hjk).1 hq)]; rfl
   ·
    rw [if_neg hq, if_neg (fun q => hq ((rch_edge hk hi hjk).2 q))]; omega
 rw [e, sumN_add, sumN_one, if_pos hk]
 unfold distN
 congr 1
open Classical in
noncomputable def joinN (rs : List (Nat × Nat)) (f : Nat → Int) (l : List Nat) : Int := sumN (fun k => if ∃ x ∈ l, ∃ y ∈ l, ¬ Rch rs k x y then f k else 0) rs.length
end
def dist3 (rs : List (Nat × Nat)) (d : Nat → Nat → Int) (s x y z : Nat) : Int := d s x + d s y + d s z
section
variable {rs : List (Nat × Nat)} {n : Nat} (T : TreeR rs n) {f : Nat → Int} (hf : ∀ k, k < rs.length → 1 ≤ f k)
include T hf
end
def ParL (rs : List (Nat × Nat)) (w : Int) (out : List Nat) : Prop := ∀ p, 0 < p → p < out.length → ∃ q k, q < p ∧ k < rs.length ∧ (k : Int) ≠ w ∧ Inc rs k (out.getD q 0) (out.getD p 0)
section
variable {rs : List (Nat × Nat)} {n : Nat} (T : TreeR rs n)
include T
theorem TreeR.part {k a b x y : Nat} (hk : k < rs.length) (hi : Inc rs k a b) (hx : x < n) (hy : y < n) : (Rch rs k a x ↔ Rch rs k a y) ↔ Rch rs k x y := by
 constructor
 ·
  intro h
  rcases T.sides hk hi hx with h1 | h1 <;> rcases T.sides hk hi hy with h2 | h2
  ·
   exact h1.symm.trans h2
  ·
   exact h1.symm.trans (h.1 h1)
  ·
   exact (h.2 h2).symm.trans h2
  ·
   exact h1.symm.trans h2
 ·
  intro h
  exact ⟨fun q => q.trans h, fun q => q.trans h.symm⟩
end
theorem sumN_swap (g : Nat → Nat → Int) (m : Nat) : ∀ k, sumN (fun i => sumN (fun j => g i j) m) k = sumN (fun j => sumN (fun i => g i j) k) m
 | 0 => by
  show (0 : Int) = sumN (fun j => 0) m
  rw [sumN_zero]
 | k + 1 => by
  show sumN _ k + sumN (fun j => g k j) m = sumN (fun j => sumN (fun i => g i j) k + g k j) m
  rw [sumN_swap g m k, ← sumN_add]
theorem sumN_mul (f : Nat → Int) (c : Int) : ∀ m, sumN f m * c = sumN (fun k => f k * c) m
 | 0 => by simp [sumN]
 | m + 1 => by
  show (sumN f m + f m) * c = sumN _ m + f m * c
  rw [Int.add_mul, sumN_mul f c m]
open Classical in
theorem copper_runs (rs : List (Nat × Nat)) (f : Nat → Int) (m : Nat) (has : Nat → Bool) (size : Nat → Int) (u v : Nat → Nat) :
  sumN (fun i => if has i then distN rs f (u i) (v i) * size i else 0) m = sumN (fun k => sumN (fun i => if has i ∧ ¬ Rch rs k (u i) (v i) then size i else 0) m * f k) rs.length := by
 have e1 : ∀ i, (if has i = true then distN rs f (u i) (v i) * size i else 0) = sumN (fun k => (if has i = true ∧ ¬ Rch rs k (u i) (v i) then size i else 0) * f k) rs.length := by
  intro i
  by_cases hh : has i = true
  ·
   rw [if_pos hh]
   unfold distN
   rw [sumN_mul]
   refine sumN_congr fun k _ => ?_
   by_cases hr : Rch rs k (u i) (v i)
   ·
    rw [if_pos hr, if_neg (fun q => q.2 hr)]; simp
   ·
    rw [if_neg hr, if_pos ⟨hh, hr⟩, Int.mul_comm]
  ·
   rw [if_neg hh, sumN_congr (g := fun _ => 0) (fun k _ => by rw [if_neg (fun q => hh q.1)]; simp), sumN_zero]
 rw [sumN_congr fun i _ => e1 i, sumN_swap]
 refine sumN_congr fun k _ => ?_
 rw [sumN_mul]
def farEnd (rs : List (Nat × Nat)) (k x : Nat) : Nat := if (rs.getD k (0, 0)).1 = x then (rs.getD k (0, 0)).2 else (rs.getD k (0, 0)).1
def spotsW (rs : List (Nat × Nat)) : Nat → List Nat → List Nat
 | x, [] => [x]
 | x, k :: P => x :: spotsW rs (farEnd rs k x) P
section
variable {rs : List (Nat × Nat)} {n : Nat} (T : TreeR rs n)
include T
end
theorem stR_ends {rs : List (Nat × Nat)} {w : Int} {s n : Nat} (hs : s < n) (hrs : ∀ k, k < rs.length → (rs.getD k (0, 0)).1 < n ∧ (rs.getD k (0, 0)).2 < n) : (stR rs w s n).length ≤ n := stR_len hs hrs n
def setM (m : List Bool) (a b : Nat) : List Bool := m.set a (m.getD a false || m.getD b false)
def stepM (m : List Bool) (r : Nat × Nat) : List Bool := setM (setM m r.1 r.2) r.2 r.1
def scanM (rs : List (Nat × Nat)) (m : List Bool) : Nat → List Bool
 | 0 => m
 | k + 1 => stepM (scanM rs m k) (rs.getD k (0, 0))
def passM (rs : List (Nat × Nat)) (n : Nat) : Nat → List Bool
 | 0 => (List.replicate n false).set 0 true
 | j + 1 => scanM rs (passM rs n j) rs.length
def LeM (m m' : List Bool) : Prop := m.length = m'.length ∧ ∀ y, m.getD y false = true → m'.getD y false = true
theorem LeM.refl (m : List Bool) : LeM m m := ⟨rfl, fun _ h => h⟩
theorem LeM.trans {a b c : List Bool} (h : LeM a b) (k : LeM b c) : LeM a c := ⟨h.1.trans k.1, fun y q => k.2 y (h.2 y q)⟩
theorem LeM.tail {a b : Bool} {l m : List Bool} (h : LeM (a :: l) (b :: m)) : LeM l m := ⟨by have := h.1; simp at this; exact this, fun y q => by have := h.2 (y + 1); simpa using this (by simpa using q)⟩
theorem LeM.count : ∀ {l m : List Bool}, LeM l m → l.count true ≤ m.count true ∧ (l.count true = m.count true → l = m)
 | [], [], _ => ⟨Nat.le_refl _, fun _ => rfl⟩
 | [], b :: m, h => by have := h.1; simp at this
 | a :: l, [], h => by have := h.1; simp at this
 | a :: l, b :: m, h => by
  obtain ⟨h1, h2⟩ := LeM.count h.tail
  have h0 := h.2 0
  simp at h0
  cases a <;> cases b
  ·
   refine ⟨by simpa using h1, fun e => by rw [h2 (by simpa using e)]⟩
  ·
   refine ⟨by simp; omega, fun e => ?_⟩
   simp at e
   omega
  ·
   simp at h0
  ·
   refine ⟨by simpa using h1, fun e => by rw [h2 (by simpa using e)]⟩
theorem LeM.antisymm {l m : List Bool} (h : LeM l m) (k : LeM m l) : l = m := h.count.2 (Nat.le_antisymm h.count.1 k.count.1)
theorem getD_set (m : List Bool) (a : Nat) (v : Bool) (y : Nat) : (m.set a v).getD y false = if a = y ∧ a < m.length then v else m.getD y false := by
 rw [List.getD_eq_getElem?_getD, List.getD_eq_getElem?_getD, List.getElem?_set]
 by_cases h : a = y
 ·
  subst h
  by_cases h2 : a < m.length
  ·
   simp [h2]
  ·
   simp [h2]
 ·
  simp [h]
theorem setM_le (m : List Bool) (a b : Nat) : LeM m (setM m a b) := by
 refine ⟨by simp [setM], fun y h => ?_⟩
 unfold setM
 rw [getD_set]
 split
 ·
  rename_i h1
  rw [h1.1, h]; rfl
 ·
  exact h
theorem stepM_le (m : List Bool) (r : Nat × Nat) : LeM m (stepM m r) := (setM_le ..).trans (setM_le ..)
theorem scanM_le (rs : List (Nat × Nat)) (m : List Bool) {j k : Nat} (h : j ≤ k) : LeM (scanM rs m j) (scanM rs m k) := by
 induction k with
 | zero => rw [show j = 0 by omega]; exact LeM.refl _
 | succ k ih =>
  rcases Nat.lt_or_ge j (k + 1) with h1 | h1
  ·
   exact (ih (by omega)).trans (stepM_le ..)
  ·
   rw [show j = k + 1 by omega]; exact LeM.refl _
theorem passM_le (rs : List (Nat × Nat)) (n : Nat) {i j : Nat} (h : i ≤ j) : LeM (passM rs n i) (passM rs n j) := by
 induction j with
 | zero => rw [show i = 0 by omega]; exact LeM.refl _
 | succ j ih =>
  rcases Nat.lt_or_ge i (j + 1) with h1 | h1
  ·
   exact (ih (by omega)).trans (scanM_le rs (passM rs n j) (Nat.zero_le _))
  ·
   rw [show i = j + 1 by omega]; exact LeM.refl _
theorem passM_len (rs : List (Nat × Nat)) (n j : Nat) : (passM rs n j).length = n := by
 rw [← (passM_le rs n (Nat.zero_le j)).1]
 simp [passM]
theorem scanM_len (rs : List (Nat × Nat)) (m : List Bool) (k : Nat) : (scanM rs m k).length = m.length := (scanM_le rs m (Nat.zero_le k)).1.symm
theorem scanM_closed {rs : List (Nat × Nat)} {m : List Bool} (h : scanM rs m rs.length = m) {k : Nat} (hk : k < rs.length) {a b : Nat} (hr : rs.getD k (0, 0) = (a, b)) (ha : a < m.length) (hb : b < m.length) :
  m.getD a false = m.getD b false := by
 have e1 : scanM rs m k = m := LeM.antisymm (by have := scanM_le rs m (show k ≤ rs.length by omega); rw [h] at this; exact this) (scanM_le rs m (Nat.zero_le k))
 have e2 : stepM m (a, b) = m := by
  refine LeM.antisymm ?_ (stepM_le ..)
  have h1 := scanM_le rs m (show k + 1 ≤ rs.length by omega)
  rw [h] at h1
  have h2 : scanM rs m (k + 1) = stepM (scanM rs m k) (rs.getD k (0, 0)) := rfl
  rw [h2, e1, hr] at h1
  exact h1
 have e3 : setM m a b = m := LeM.antisymm (by have h1 : LeM (setM m a b) (stepM m (a, b)) := setM_le ..; rw [e2] at h1; exact h1) (setM_le ..)
 have e4 : setM m b a = m := by
  have h1 : stepM m (a, b) = setM (setM m a b) b a := rfl
  rw [e2, e3] at h1
  exact h1.symm
 have f3 := congrArg (fun x => x.getD a false) e3
 have f4 := congrArg (fun x => x.getD b false) e4
 simp only [setM] at f3 f4
 rw [getD_set, if_pos ⟨rfl, ha⟩] at f3
 rw [getD_set, if_pos ⟨rfl, hb⟩] at f4
 cases h1 : m.getD a false <;> cases h2 : m.getD b false <;> rw [h1, h2] at f3 f4 <;> simp_all
section
variable {rs : List (Nat × Nat)} {n : Nat} (hn : 0 < n) (hrs : ∀ k, k < rs.length → (rs.getD k (0, 0)).1 < n ∧ (rs.getD k (0, 0)).2 < n)
include hn hrs
theorem passM_zero (j : Nat) : (passM rs n j).getD 0 false = true := by
 refine (passM_le rs n (Nat.zero_le j)).2 0 ?_
 show ((List.replicate n false).set 0 true).getD 0 false = true
 rw [getD_set, if_pos ⟨rfl, by simpa using hn⟩]
theorem setM_rch {m : List Bool} (h : ∀ y, m.getD y false = true → Rch rs (-1) 0 y) {k a b : Nat} (hk : k < rs.length) (hr : rs.getD k (0, 0) = (a, b) ∨ rs.getD k (0, 0) = (b, a)) : ∀ y, (setM m a b).getD y false = true → Rch rs (-1) 0 y := by
 intro y hy
 unfold setM at hy
 rw [getD_set] at hy
 split at hy
 ·
  rename_i h1
  rw [Bool.or_eq_true] at hy
  rcases hy with h2 | h2
  ·
   exact h1.1 ▸ h a h2
  ·
   rw [← h1.1]
   rcases hr with h3 | h3
   ·
    exact .bwd (h b h2) hk (by omega) h3
   ·
    exact .fwd (h b h2) hk (by omega) h3
 ·
  exact h y hy
theorem scanM_rch {m : List Bool} (h : ∀ y, m.getD y false = true → Rch rs (-1) 0 y) : ∀ k, k ≤ rs.length → ∀ y, (scanM rs m k).getD y false = true → Rch rs (-1) 0 y
 | 0, _, y, hy => h y hy
 | k + 1, hk, y, hy => by
  obtain ⟨a, b, hr⟩ : ∃ a b, rs.getD k (0, 0) = (a, b) := ⟨_, _, rfl⟩
  have hy' : (setM (setM (scanM rs m k) (rs.getD k (0, 0)).1 (rs.getD k (0, 0)).2) (rs.getD k (0, 0)).2 (rs.getD k (0, 0)).1).getD y false = true := hy
  rw [hr] at hy'
  exact setM_rch hn hrs (setM_rch hn hrs (scanM_rch h k (by omega)) (by omega) (.inl hr)) (by omega) (.inr hr) y hy'
theorem passM_rch : ∀ j y, (passM rs n j).getD y false = true → Rch rs (-1) 0 y
 | 0, y, hy => by
  have hy' : ((List.replicate n false).set 0 true).getD y false = true := hy
  rw [getD_set] at hy'
  split at hy'
  ·
   rename_i h; rw [← h.1]; exact .base
  ·
   rw [List.getD_eq_getElem?_getD, List.getElem?_replicate] at hy'
   split at hy' <;> simp at hy'
 | j + 1, y, hy => scanM_rch hn hrs (passM_rch j) _ (Nat.le_refl _) y hy
theorem passM_stops : ∃ j, j < n ∧ passM rs n (j + 1) = passM rs n j := by
 refine Decidable.byContradiction fun hne => ?_
 have key : ∀ j, j ≤ n → j + 1 ≤ (passM rs n j).count true := by
  intro j
  induction j with
  | zero =>
   intro _
   have h1 : true ∈ passM rs n 0 := by
    have h2 := passM_zero hn hrs 0
    rw [List.getD_eq_getElem?_getD, List.getElem?_eq_getElem (by rw [passM_len]; exact hn)] at h2
    simp only [Option.getD_some] at h2
    rw [← h2]
    exact List.getElem_mem _
   exact List.count_pos_iff.2 h1
  | succ j ih =>
   intro hj
   have h1 := ih (by omega)
   have h2 := (passM_le rs n (show j ≤ j + 1 by omega)).count
   rcases Nat.lt_or_eq_of_le h2.1 with h3 | h3
   ·
    omega
   ·
    exact absurd ⟨j, by omega, (h2.2 h3).symm⟩ hne
 have h1 := key n (Nat.le_refl _)
 have h2 : (passM rs n n).count true ≤ (passM rs n n).length := List.count_le_length
 rw [passM_len] at h2
 omega
theorem passM_all (y : Nat) : (passM rs n n).getD y false = true ↔ Rch rs (-1) 0 y := by
 refine ⟨passM_rch hn hrs n y, fun h => ?_⟩
 obtain ⟨j, hj, he⟩ := passM_stops hn hrs
 have hcl : ∀ {k : Nat}, k < rs.length → ∀ {a b : Nat}, rs.getD k (0, 0) = (a, b) → (passM rs n j).getD a false = (passM rs n j).getD b false := by
  intro k hk a b hr
  have h1 := hrs k hk
  rw [hr] at h1
  exact scanM_closed he hk hr (by rw [passM_len]; exact h1.1) (by rw [passM_len]; exact h1.2)
 refine (passM_le rs n (show j ≤ n by omega)).2 y ?_
 induction h with
 | base => exact passM_zero hn hrs j
 | fwd _ hk _ hr ih => rw [← hcl hk hr]; exact ih
 | bwd _ hk _ hr ih => rw [hcl hk hr]; exact ih
theorem tree_same {i : Nat} (hi : (stR rs (-1) 0 i).length ≤ i) : (stR rs (-1) 0 i).length = n ↔ ∀ y, y < n → (passM rs n n).getD y false = true := by
 rw [stR_full hn hrs hi]
 exact ⟨fun h y hy => (passM_all hn hrs y).2 (h y hy), fun h y hy => (passM_all hn hrs y).1 (h y hy)⟩
end
end Go.Proofs.YtehadoecnmfeoaaGreat

/- Part 11 of this claim's texts: walks and plain laws. -/
import Derived.Test.YtehadoecnmfeoaaRows
import Derived.Test.YtehadoecnmfeoaaGBB8
import Derived.Test.YtehadoecnmfeoaaGBB10
/- What an audit finds: plain laws. -/
namespace Go.Proofs.Ytehadoecnmfeoaa
set_option linter.unusedVariables false
/-- A module: its formula and its wires. -/
structure Md where
  f : List Int
  ws : List Int
def Md.o : Md := ⟨[], []⟩
def mdIn (w : Nat) (d : Md) : Bool := d.ws.contains (w : Int)
/-- The formulas of the modules that have a wire. -/
def withL (ms : List Md) (w : Nat) : List (List Int) := (ms.filter (mdIn w)).map Md.f
/-- How many formulas hold. -/
def cntV (fs : List (List Int)) (x : List Bool) : Nat := (fs.filter fun g => evF1 (vf x) g).length
/-- The three kinds of defects: 1 lacks, 2 extra, 3 double. -/
def defB (kind : Nat) (is : Bool) (n : Nat) : Bool :=
  match kind with
  | 1 => is && decide (n = 0)
  | 2 => !is && decide (0 < n)
  | _ => is && decide (1 < n)
def frstV (m : Mo) (f : List Int) (fs : List (List Int)) (kind : Nat) : Option (List Bool) := (allM m).find? fun x => defB kind (evF1 (vf x) f) (cntV fs x)
/-- The sooner one of two. -/
def soon (a b : Option (List Bool)) : Option (List Bool) :=
  match a, b with
  | none, y => y
  | some x, none => some x
  | some x, some y => if befB y x then some y else some x
theorem find_or (P q : List Bool → Bool) : ∀ (L : List (List Bool)), L.Pairwise (fun x y => befB x y = true) → L.find? (fun x => P x || q x) = soon (L.find? P) (L.find? q)
  | [], _ => rfl
  | a :: t, hs => by
    obtain ⟨ha, ht⟩ := List.pairwise_cons.1 hs
    have ih := find_or P q t ht
    rw [List.find?_cons, List.find?_cons, List.find?_cons]
    cases hP : P a with
    | true =>
      simp only [Bool.true_or]
      cases hq : q a with
      | true => simp [soon, befB_self]
      | false =>
        simp only
        cases hy : t.find? q with
        | none => rfl
        | some y =>
          have := befB_asym a y (ha y (List.mem_of_find?_eq_some hy))
          simp [soon, this]
    | false =>
      cases hq : q a with
      | true =>
        simp only [Bool.or_true]
        cases hx : t.find? P with
        | none => rfl
        | some x =>
          have := ha x (List.mem_of_find?_eq_some hx)
          simp [soon, this]
      | false =>
        simp only [Bool.or_false]
        exact ih
theorem head_find {L : List (List Bool)} (p : List Bool → Bool) : (L.filter p).head? = L.find? p := by
  induction L with
  | nil => rfl
  | cons a t ih =>
    rw [List.filter_cons, List.find?_cons]
    cases h : p a with
    | true => simp
    | false =>
      simp only [Bool.false_eq_true, if_false]
      exact ih
theorem cntV_pos {fs : List (List Int)} {x : List Bool} : decide (0 < cntV fs x) = fs.any fun g => evF1 (vf x) g := by
  unfold cntV
  rw [Bool.eq_iff_iff, decide_eq_true_eq, List.length_pos_iff, List.any_eq_true]
  constructor
  · intro h
    obtain ⟨g, hg⟩ := List.exists_mem_of_ne_nil _ h
    exact ⟨g, (List.mem_filter.1 hg).1, by simpa using (List.mem_filter.1 hg).2⟩
  · rintro ⟨g, hg, h⟩ h0
    have : g ∈ fs.filter fun g => evF1 (vf x) g := List.mem_filter.2 ⟨hg, by simpa using h⟩
    rw [h0] at this
    cases this
theorem take_step {fs : List (List Int)} {k : Nat} (hk : k < fs.length) : fs.take (k + 1) = fs.take k ++ [fs.getD k []] := by
  rw [List.take_add_one, List.getElem?_eq_getElem hk, List.getD_eq_getElem?_getD, List.getElem?_eq_getElem hk]
  rfl
/-- The program's search for a variant with too much: behind k formulas. -/
def xtrV (m : Mo) (f : List Int) (fs : List (List Int)) (k : Nat) : Option (List Bool) := (allM m).find? fun x => !evF1 (vf x) f && (fs.take k).any fun g => evF1 (vf x) g
theorem xtrV_zero (m : Mo) (f : List Int) (fs : List (List Int)) : xtrV m f fs 0 = none := by
  unfold xtrV
  rw [List.find?_eq_none]
  intro x _
  simp
theorem xtrV_step {m : Mo} {f : List Int} {fs : List (List Int)} {k : Nat} (hk : k < fs.length) : xtrV m f fs (k + 1) = soon (xtrV m f fs k) ((allM m).find? fun x => evF1 (vf x) (fs.getD k []) && !evF1 (vf x) f) := by
  unfold xtrV
  rw [← find_or _ _ _ (allM_sorted m), take_step hk]
  congr 1
  funext x
  rw [List.any_append]
  cases evF1 (vf x) f <;> simp
theorem xtrV_all (m : Mo) (f : List Int) (fs : List (List Int)) : xtrV m f fs fs.length = frstV m f fs 2 := by
  unfold xtrV frstV
  rw [List.take_length]
  congr 1
  funext x
  show _ = (!evF1 (vf x) f && decide (0 < cntV fs x))
  rw [cntV_pos]
/-- Two formulas of which the later one is before i. -/
def dubB (fs : List (List Int)) (x : List Bool) : Nat → Bool
  | 0 => false
  | i + 1 => dubB fs x i || (evF1 (vf x) (fs.getD i []) && (fs.take i).any fun g => evF1 (vf x) g)
def dubV (m : Mo) (f : List Int) (fs : List (List Int)) (i j : Nat) : Option (List Bool) := (allM m).find? fun x => evF1 (vf x) f && (dubB fs x i || (evF1 (vf x) (fs.getD i []) && (fs.take j).any fun g => evF1 (vf x) g))
theorem dubV_zero (m : Mo) (f : List Int) (fs : List (List Int)) : dubV m f fs 0 0 = none := by
  unfold dubV
  rw [List.find?_eq_none]
  intro x _
  simp [dubB]
theorem dubV_in {m : Mo} {f : List Int} {fs : List (List Int)} {i j : Nat} (hj : j < i) (hi : i < fs.length) : dubV m f fs i (j + 1) = soon (dubV m f fs i j) ((allM m).find? fun x => evF1 (vf x) f && (evF1 (vf x) (fs.getD i []) && evF1 (vf x) (fs.getD j []))) := by
  unfold dubV
  rw [← find_or _ _ _ (allM_sorted m), take_step (by omega)]
  congr 1
  funext x
  rw [List.any_append]
  cases evF1 (vf x) f <;> cases evF1 (vf x) (fs.getD i []) <;> simp [Bool.or_assoc]
theorem dubV_next (m : Mo) (f : List Int) (fs : List (List Int)) (i : Nat) : dubV m f fs i i = dubV m f fs (i + 1) 0 := by
  unfold dubV
  congr 1
  funext x
  simp [dubB]
theorem dubB_all (fs : List (List Int)) (x : List Bool) : ∀ i, i ≤ fs.length → dubB fs x i = decide (1 < cntV (fs.take i) x)
  | 0, _ => by simp [dubB, cntV]
  | i + 1, hi => by
    have ih := dubB_all fs x i (by omega)
    show (dubB fs x i || _) = _
    rw [ih, take_step (by omega), ← cntV_pos]
    unfold cntV
    rw [List.filter_append, List.length_append]
    cases h : evF1 (vf x) (fs.getD i []) with
    | true =>
      simp only [List.filter_cons, h, Bool.true_and, List.filter_nil, if_true, List.length_singleton]
      rw [Bool.eq_iff_iff]
      simp only [Bool.or_eq_true, decide_eq_true_eq]
      omega
    | false =>
      have h2 : evF1 (vf x) (fs[i]?.getD []) = false := by rw [← List.getD_eq_getElem?_getD]; exact h
      simp [h2]
theorem dubV_all (m : Mo) (f : List Int) (fs : List (List Int)) : dubV m f fs fs.length 0 = frstV m f fs 3 := by
  unfold dubV frstV
  congr 1
  funext x
  have h := dubB_all fs x fs.length (Nat.le_refl _)
  rw [List.take_length] at h
  show _ = (evF1 (vf x) f && decide (1 < cntV fs x))
  rw [h]
  simp
/-- The weights with which the program looks for a variant that lacks a wire. -/
theorem lack_sum (x : List Bool) : ∀ (fs : List (List Int)), fsum (vf x) fs (List.replicate fs.length (-1)) = -(cntV fs x : Int)
  | [] => rfl
  | g :: fs => by
    have ih := lack_sum x fs
    show (if evF1 (vf x) g then (-1 : Int) else 0) + fsum (vf x) fs (List.replicate fs.length (-1)) = _
    rw [ih]
    unfold cntV
    cases h : evF1 (vf x) g <;> simp [h] <;> omega
def lackW (fs : List (List Int)) : List Int := ((fs.length + 1 : Nat) : Int) :: List.replicate fs.length (-1)
theorem lack_val {m : Mo} {f : List Int} {fs : List (List Int)} {x : List Bool} (hx : x ∈ allM m) : valF m (f :: fs) (lackW fs) x = (if evF1 (vf x) f then ((fs.length + 1 : Nat) : Int) else 0) - (cntV fs x : Int) := by
  have h1 : allF (vf x) m.rules = true := (List.mem_filter.1 hx).2
  unfold valF
  rw [if_pos h1]
  show (if evF1 (vf x) f then ((fs.length + 1 : Nat) : Int) else 0) + fsum (vf x) fs (List.replicate fs.length (-1)) = _
  rw [lack_sum]
  omega
theorem lack_top {m : Mo} {f : List Int} {fs : List (List Int)} {x : List Bool} (hx : x ∈ allM m) : valF m (f :: fs) (lackW fs) x ≤ ((fs.length + 1 : Nat) : Int) ∧ (valF m (f :: fs) (lackW fs) x = ((fs.length + 1 : Nat) : Int) ↔ defB 1 (evF1 (vf x) f) (cntV fs x) = true) := by
  rw [lack_val hx]
  have h1 : defB 1 (evF1 (vf x) f) (cntV fs x) = (evF1 (vf x) f && decide (cntV fs x = 0)) := rfl
  rw [h1]
  cases evF1 (vf x) f with
  | true => simp; omega
  | false => simp; omega
theorem find_congr6 {p q : List Bool → Bool} : ∀ (L : List (List Bool)), (∀ x ∈ L, p x = q x) → L.find? p = L.find? q
  | [], _ => rfl
  | a :: t, h => by
    rw [List.find?_cons, List.find?_cons, h a (by simp), find_congr6 t fun x hx => h x (by simp [hx])]
theorem find_filter6 (p q : List Bool → Bool) : ∀ (L : List (List Bool)), (L.filter p).find? q = L.find? fun x => p x && q x
  | [] => rfl
  | a :: t => by
    rw [List.filter_cons, List.find?_cons]
    cases hp : p a with
    | true =>
      rw [if_pos rfl, List.find?_cons]
      simp [find_filter6 p q t]
    | false =>
      rw [if_neg (by simp)]
      simp [find_filter6 p q t]
/-- What the greatest sum says. -/
theorem lack_law {m : Mo} {f : List Int} {fs : List (List Int)} {x : List Bool} (hl : fs.length ≤ 1000) (hx : (exts m.opts.length []).find? (fun y => valF m (f :: fs) (lackW fs) y == bestF m (f :: fs) (lackW fs)) = some x) :
    (((fs.length + 1 : Nat) : Int) ≤ bestF m (f :: fs) (lackW fs) → frstV m f fs 1 = some x) ∧ (bestF m (f :: fs) (lackW fs) < ((fs.length + 1 : Nat) : Int) → frstV m f fs 1 = none) := by
  have hmx := List.mem_of_find?_eq_some hx
  have hvx := List.find?_some hx
  simp only [beq_iff_eq] at hvx
  have hbest : ∀ y, y ∈ exts m.opts.length [] → valF m (f :: fs) (lackW fs) y ≤ bestF m (f :: fs) (lackW fs) := fun y hy => maxL_mem _ _ (List.mem_map_of_mem hy)
  constructor
  · intro h
    have hin : x ∈ allM m := by
      refine List.mem_filter.2 ⟨hmx, ?_⟩
      cases ha : allF (vf x) m.rules with
      | true => rfl
      | false =>
        unfold valF at hvx
        rw [ha, if_neg (by simp)] at hvx
        rw [← hvx] at h
        unfold leastI at h
        omega
    have htop := (lack_top (f := f) (fs := fs) hin).1
    rw [← hx]
    unfold frstV allM
    rw [find_filter6]
    refine find_congr6 _ fun y hy => ?_
    cases ha : allF (vf y) m.rules with
    | true =>
      have hyi : y ∈ allM m := List.mem_filter.2 ⟨hy, ha⟩
      have h2 := lack_top (f := f) (fs := fs) hyi
      rw [Bool.true_and, Bool.eq_iff_iff, ← h2.2, beq_iff_eq]
      omega
    | false =>
      have h3 : valF m (f :: fs) (lackW fs) y = leastI := by unfold valF; rw [ha]; rfl
      rw [h3, Bool.false_and]
      symm
      rw [beq_eq_false_iff_ne]
      unfold leastI
      omega
  · intro h
    unfold frstV
    rw [List.find?_eq_none]
    intro y hy hd
    have h2 := lack_top (f := f) (fs := fs) hy
    have h3 := hbest y (List.mem_filter.1 hy).1
    have h4 := h2.2.2 hd
    omega
end Go.Proofs.Ytehadoecnmfeoaa
/- What can be reached in a loom: the program's list and the reference's marks say the same: plain laws. -/
namespace Go.Proofs.Ytehadoecnmfeoaa
set_option linter.unusedVariables false
set_option linter.unusedSimpArgs false
/-- What can be reached from a spot by the runs but one. -/
inductive Rch (rs : List (Nat × Nat)) (w : Int) (s : Nat) : Nat → Prop
  | base : Rch rs w s s
  | fwd {x y k : Nat} : Rch rs w s x → k < rs.length → (k : Int) ≠ w → rs.getD k (0, 0) = (x, y) → Rch rs w s y
  | bwd {x y k : Nat} : Rch rs w s x → k < rs.length → (k : Int) ≠ w → rs.getD k (0, 0) = (y, x) → Rch rs w s y
def stepA (w : Int) (x : Nat) (out : List Nat) (k : Nat) (a b : Nat) : List Nat := if (k : Int) ≠ w ∧ a = x ∧ b ∉ out then out ++ [b] else out
def stepR (w : Int) (x : Nat) (out : List Nat) (k : Nat) (r : Nat × Nat) : List Nat := stepA w x (stepA w x out k r.1 r.2) k r.2 r.1
def scanR (rs : List (Nat × Nat)) (w : Int) (x : Nat) (out : List Nat) : Nat → List Nat
  | 0 => out
  | k + 1 => stepR w x (scanR rs w x out k) k (rs.getD k (0, 0))
def stR (rs : List (Nat × Nat)) (w : Int) (s : Nat) : Nat → List Nat
  | 0 => [s]
  | i + 1 => if i < (stR rs w s i).length then scanR rs w ((stR rs w s i).getD i 0) (stR rs w s i) rs.length else stR rs w s i
theorem stepA_pre (w : Int) (x : Nat) (out : List Nat) (k a b : Nat) : out <+: stepA w x out k a b := by
  unfold stepA
  split
  · exact List.prefix_append _ _
  · exact List.prefix_rfl
theorem stepR_pre (w : Int) (x : Nat) (out : List Nat) (k : Nat) (r : Nat × Nat) : out <+: stepR w x out k r := (stepA_pre ..).trans (stepA_pre ..)
theorem scanR_pre (rs : List (Nat × Nat)) (w : Int) (x : Nat) (out : List Nat) : ∀ k, out <+: scanR rs w x out k
  | 0 => List.prefix_rfl
  | k + 1 => (scanR_pre rs w x out k).trans (stepR_pre ..)
theorem scanR_pre' (rs : List (Nat × Nat)) (w : Int) (x : Nat) (out : List Nat) {j k : Nat} (h : j ≤ k) : scanR rs w x out j <+: scanR rs w x out k := by
  induction k with
  | zero => rw [show j = 0 by omega]; exact List.prefix_rfl
  | succ k ih =>
    rcases Nat.lt_or_ge j (k + 1) with h1 | h1
    · exact (ih (by omega)).trans (stepR_pre ..)
    · rw [show j = k + 1 by omega]; exact List.prefix_rfl
theorem stR_pre1 (rs : List (Nat × Nat)) (w : Int) (s : Nat) (i : Nat) : stR rs w s i <+: stR rs w s (i + 1) := by
  show _ <+: (if _ then _ else _)
  split
  · exact scanR_pre ..
  · exact List.prefix_rfl
theorem stR_pre (rs : List (Nat × Nat)) (w : Int) (s : Nat) {i j : Nat} (h : i ≤ j) : stR rs w s i <+: stR rs w s j := by
  induction j with
  | zero => rw [show i = 0 by omega]; exact List.prefix_rfl
  | succ j ih =>
    rcases Nat.lt_or_ge i (j + 1) with h1 | h1
    · exact (ih (by omega)).trans (stR_pre1 ..)
    · rw [show i = j + 1 by omega]; exact List.prefix_rfl
theorem stepA_nodup {w : Int} {x : Nat} {out : List Nat} {k a b : Nat} (h : out.Nodup) : (stepA w x out k a b).Nodup := by
  unfold stepA
  split
  · rename_i h1
    rw [List.nodup_append]
    exact ⟨h, by simp, fun y hy z hz => by simp at hz; subst hz; exact fun e => h1.2.2 (e ▸ hy)⟩
  · exact h
theorem scanR_nodup {rs : List (Nat × Nat)} {w : Int} {x : Nat} {out : List Nat} (h : out.Nodup) : ∀ k, (scanR rs w x out k).Nodup
  | 0 => h
  | k + 1 => stepA_nodup (stepA_nodup (scanR_nodup h k))
theorem stR_nodup (rs : List (Nat × Nat)) (w : Int) (s : Nat) : ∀ i, (stR rs w s i).Nodup
  | 0 => by simp [stR]
  | i + 1 => by
    show List.Nodup (if _ then _ else _)
    split
    · exact scanR_nodup (stR_nodup rs w s i) _
    · exact stR_nodup rs w s i
theorem scanR_rch {rs : List (Nat × Nat)} {w : Int} {s x : Nat} {out : List Nat} (h : ∀ y ∈ out, Rch rs w s y) (hx : Rch rs w s x) : ∀ k, k ≤ rs.length → ∀ y ∈ scanR rs w x out k, Rch rs w s y
  | 0, _, y, hy => h y hy
  | k + 1, hk, y, hy => by
    have ih := scanR_rch h hx k (by omega)
    obtain ⟨a, b, hr⟩ : ∃ a b, rs.getD k (0, 0) = (a, b) := ⟨_, _, rfl⟩
    have hy' : y ∈ stepA w x (stepA w x (scanR rs w x out k) k (rs.getD k (0, 0)).1 (rs.getD k (0, 0)).2) k (rs.getD k (0, 0)).2 (rs.getD k (0, 0)).1 := hy
    rw [hr] at hy'
    unfold stepA at hy'
    simp only at hy'
    have key : ∀ L : List Nat, (∀ z ∈ L, Rch rs w s z) → ∀ c d : Nat, (rs.getD k (0, 0) = (c, d) ∨ rs.getD k (0, 0) = (d, c)) → ∀ z ∈ (if (k : Int) ≠ w ∧ c = x ∧ d ∉ L then L ++ [d] else L), Rch rs w s z := by
      intro L hL c d hcd z hz
      split at hz
      · rename_i h1
        rcases List.mem_append.1 hz with h2 | h2
        · exact hL z h2
        · simp at h2
          subst h2
          obtain ⟨h3, rfl, _⟩ := h1
          rcases hcd with h4 | h4
          · exact .fwd hx (by omega) h3 h4
          · exact .bwd hx (by omega) h3 h4
      · exact hL z hz
    exact key _ (key _ ih a b (.inl hr)) b a (.inr hr) y hy'
theorem lGetD_mem {l : List Nat} {i : Nat} (h : i < l.length) : l.getD i 0 ∈ l := by
  rw [List.getD_eq_getElem?_getD, List.getElem?_eq_getElem h]
  exact List.getElem_mem h
theorem stR_rch (rs : List (Nat × Nat)) (w : Int) (s : Nat) : ∀ i, ∀ y ∈ stR rs w s i, Rch rs w s y
  | 0, y, hy => by simp [stR] at hy; subst hy; exact .base
  | i + 1, y, hy => by
    have ih := stR_rch rs w s i
    have hy' : y ∈ (if i < (stR rs w s i).length then scanR rs w ((stR rs w s i).getD i 0) (stR rs w s i) rs.length else stR rs w s i) := hy
    split at hy'
    · rename_i h1
      exact scanR_rch ih (ih _ (lGetD_mem h1)) _ (Nat.le_refl _) y hy'
    · exact ih y hy'
theorem stepA_has {w : Int} {x : Nat} {out : List Nat} {k a b : Nat} (h : (k : Int) ≠ w) (ha : a = x) : b ∈ stepA w x out k a b := by
  unfold stepA
  by_cases hb : b ∈ out
  · rw [if_neg (fun q => q.2.2 hb)]; exact hb
  · rw [if_pos ⟨h, ha, hb⟩]; simp
theorem scanR_has {rs : List (Nat × Nat)} {w : Int} {x : Nat} {out : List Nat} {k : Nat} (hk : k < rs.length) (h : (k : Int) ≠ w) {a b : Nat} (hr : rs.getD k (0, 0) = (a, b)) :
    (a = x → b ∈ scanR rs w x out rs.length) ∧ (b = x → a ∈ scanR rs w x out rs.length) := by
  have hp := scanR_pre' rs w x out (show k + 1 ≤ rs.length by omega)
  have e : scanR rs w x out (k + 1) = stepA w x (stepA w x (scanR rs w x out k) k a b) k b a := by
    show stepR _ _ _ _ _ = _
    rw [hr]; rfl
  rw [e] at hp
  exact ⟨fun ha => hp.subset ((stepA_pre ..).subset (stepA_has h ha)), fun hb => hp.subset (stepA_has h hb)⟩
theorem pre_getD {l m : List Nat} (h : l <+: m) {i : Nat} (hi : i < l.length) : m.getD i 0 = l.getD i 0 := by
  obtain ⟨t, rfl⟩ := h
  simp [List.getD_eq_getElem?_getD, List.getElem?_append_left hi]
/-- Behind round i all that its spots lead to is there. -/
theorem stR_closed {rs : List (Nat × Nat)} {w : Int} {s : Nat} {i j : Nat} (hj : j < i) (hl : j < (stR rs w s i).length) {k : Nat} (hk : k < rs.length) (h : (k : Int) ≠ w) {a b : Nat} (hr : rs.getD k (0, 0) = (a, b)) :
    (a = (stR rs w s i).getD j 0 → b ∈ stR rs w s i) ∧ (b = (stR rs w s i).getD j 0 → a ∈ stR rs w s i) := by
  induction i with
  | zero => omega
  | succ i ih =>
    have e : stR rs w s (i + 1) = if i < (stR rs w s i).length then scanR rs w ((stR rs w s i).getD i 0) (stR rs w s i) rs.length else stR rs w s i := rfl
    have hp := stR_pre1 rs w s i
    rcases Nat.lt_or_ge j i with h1 | h1
    · by_cases h2 : j < (stR rs w s i).length
      · obtain ⟨q1, q2⟩ := ih h1 h2
        rw [pre_getD hp h2]
        exact ⟨fun q => hp.subset (q1 q), fun q => hp.subset (q2 q)⟩
      · rw [if_neg (by omega)] at e
        rw [e] at hl
        exact absurd hl h2
    · obtain rfl : j = i := by omega
      by_cases h2 : j < (stR rs w s j).length
      · rw [pre_getD hp h2]
        rw [e, if_pos h2]
        exact scanR_has hk h hr
      · rw [if_neg h2] at e
        rw [e] at hl
        exact absurd hl h2
/-- A round that has come to the end of the list: the list is all that can be reached. -/
theorem stR_all {rs : List (Nat × Nat)} {w : Int} {s i : Nat} (hi : (stR rs w s i).length ≤ i) (y : Nat) : y ∈ stR rs w s i ↔ Rch rs w s y := by
  refine ⟨stR_rch rs w s i y, fun h => ?_⟩
  induction h with
  | base =>
    have hp := stR_pre rs w s (Nat.zero_le i)
    exact hp.subset (by simp [stR])
  | fwd _ hk hw hr ih =>
    obtain ⟨j, hj, e⟩ := List.getElem_of_mem ih
    exact (stR_closed (show j < i by omega) hj hk hw hr).1 (by simp [List.getD_eq_getElem?_getD, hj, e])
  | bwd _ hk hw hr ih =>
    obtain ⟨j, hj, e⟩ := List.getElem_of_mem ih
    exact (stR_closed (show j < i by omega) hj hk hw hr).2 (by simp [List.getD_eq_getElem?_getD, hj, e])
theorem rch_lt {rs : List (Nat × Nat)} {w : Int} {s n y : Nat} (hs : s < n) (hrs : ∀ k, k < rs.length → (rs.getD k (0, 0)).1 < n ∧ (rs.getD k (0, 0)).2 < n) (h : Rch rs w s y) : y < n := by
  induction h with
  | base => exact hs
  | fwd _ hk _ hr _ => have := (hrs _ hk).2; rw [hr] at this; exact this
  | bwd _ hk _ hr _ => have := (hrs _ hk).1; rw [hr] at this; exact this
theorem nodup_sub : ∀ {l m : List Nat}, l.Nodup → l ⊆ m → l.length ≤ m.length
  | [], _, _, _ => Nat.zero_le _
  | a :: t, m, hd, h => by
    have hm : a ∈ m := h (List.mem_cons_self ..)
    have ht := nodup_sub (m := m.erase a) (List.nodup_cons.1 hd).2 fun y hy => (List.mem_erase_of_ne (fun e : y = a => (List.nodup_cons.1 hd).1 (by rw [← e]; exact hy))).2 (h (List.mem_cons_of_mem _ hy))
    rw [List.length_erase_of_mem hm] at ht
    have := List.length_pos_of_mem hm
    show t.length + 1 ≤ _
    omega
theorem nodup_len {l : List Nat} {n : Nat} (hd : l.Nodup) (h : ∀ y ∈ l, y < n) : l.length ≤ n := by
  have h1 : l ⊆ List.range n := fun y hy => by simpa using h y hy
  simpa using nodup_sub hd h1
theorem stR_len {rs : List (Nat × Nat)} {w : Int} {s n : Nat} (hs : s < n) (hrs : ∀ k, k < rs.length → (rs.getD k (0, 0)).1 < n ∧ (rs.getD k (0, 0)).2 < n) (i : Nat) : (stR rs w s i).length ≤ n :=
  nodup_len (stR_nodup ..) fun y hy => rch_lt hs hrs (stR_rch rs w s i y hy)
/-- All n spots can be reached exactly if the list has n. -/
theorem stR_full {rs : List (Nat × Nat)} {w : Int} {s n i : Nat} (hs : s < n) (hrs : ∀ k, k < rs.length → (rs.getD k (0, 0)).1 < n ∧ (rs.getD k (0, 0)).2 < n) (hi : (stR rs w s i).length ≤ i) : (stR rs w s i).length = n ↔ ∀ y, y < n → Rch rs w s y := by
  constructor
  · intro h y hy
    rw [← stR_all hi]
    refine Decidable.byContradiction fun hn => ?_
    have h2 : (y :: stR rs w s i).Nodup := List.nodup_cons.2 ⟨hn, stR_nodup ..⟩
    have h3 := nodup_len h2 fun z hz => by
      rcases List.mem_cons.1 hz with rfl | hz
      · exact hy
      · exact rch_lt hs hrs (stR_rch rs w s i z hz)
    simp only [List.length_cons] at h3
    omega
  · intro h
    have h1 : List.range n ⊆ stR rs w s i := fun y hy => (stR_all hi y).2 (h y (by simpa using hy))
    have h2 := nodup_sub List.nodup_range h1
    have h3 := stR_len (w := w) hs hrs i
    simp at h2
    omega
end Go.Proofs.Ytehadoecnmfeoaa
/- A tree of runs: without any one of them its two spots are apart: plain laws. -/
namespace Go.Proofs.Ytehadoecnmfeoaa
set_option linter.unusedVariables false
set_option linter.unusedSimpArgs false
set_option linter.unusedSectionVars false
theorem Rch.trans {rs : List (Nat × Nat)} {w : Int} {s x y : Nat} (h : Rch rs w s x) (k : Rch rs w x y) : Rch rs w s y := by
  induction k with
  | base => exact h
  | fwd _ hk hw hr ih => exact .fwd ih hk hw hr
  | bwd _ hk hw hr ih => exact .bwd ih hk hw hr
theorem Rch.symm {rs : List (Nat × Nat)} {w : Int} {s y : Nat} (h : Rch rs w s y) : Rch rs w y s := by
  induction h with
  | base => exact .base
  | fwd _ hk hw hr ih => exact (Rch.bwd .base hk hw hr).trans ih
  | bwd _ hk hw hr ih => exact (Rch.fwd .base hk hw hr).trans ih
/-- Names of the parts that hang together, after some runs. -/
def lab (rs : List (Nat × Nat)) (w : Int) : Nat → Nat → Nat
  | 0, y => y
  | k + 1, y => if (k : Int) = w then lab rs w k y else if lab rs w k y = lab rs w k (rs.getD k (0, 0)).1 then lab rs w k (rs.getD k (0, 0)).2 else lab rs w k y
theorem lab_edge {rs : List (Nat × Nat)} {w : Int} : ∀ {k j : Nat}, j < k → (j : Int) ≠ w → ∀ {a b : Nat}, rs.getD j (0, 0) = (a, b) → lab rs w k a = lab rs w k b
  | 0, j, h, _, _, _, _ => by omega
  | k + 1, j, h, hw, a, b, hr => by
    rcases Nat.lt_or_ge j k with h1 | h1
    · have ih := lab_edge (rs := rs) (w := w) h1 hw hr
      simp only [lab]
      rw [ih]
    · obtain rfl : j = k := by omega
      simp only [lab, if_neg hw, hr, if_true]
      by_cases h2 : lab rs w j b = lab rs w j a
      · rw [if_pos h2]
      · rw [if_neg h2]
theorem lab_rch {rs : List (Nat × Nat)} {w : Int} {s y : Nat} (h : Rch rs w s y) : lab rs w rs.length s = lab rs w rs.length y := by
  induction h with
  | base => rfl
  | fwd _ hk hw hr ih => rw [ih, lab_edge hk hw hr]
  | bwd _ hk hw hr ih => rw [ih, lab_edge hk hw hr]
theorem countP_near {p q : Nat → Bool} {c : Nat} : ∀ {l : List Nat}, l.Nodup → (∀ x, x ≠ c → p x = true → q x = true) → l.countP p ≤ l.countP q + 1
  | [], _, _ => by simp
  | a :: l, hd, h => by
    obtain ⟨h1, h2⟩ := List.nodup_cons.1 hd
    by_cases ha : a = c
    · subst ha
      have h3 : l.countP p ≤ l.countP q := List.countP_mono_left fun x hx hp => h x (fun e => h1 (e ▸ hx)) hp
      simp only [List.countP_cons]
      split <;> split <;> omega
    · have ih := countP_near h2 h
      simp only [List.countP_cons]
      split
      · rename_i hp
        rw [if_pos (h a ha hp)]
        omega
      · split <;> omega
/-- How many of the first k runs are taken. -/
def takenN (w : Int) : Nat → Nat
  | 0 => 0
  | k + 1 => if (k : Int) = w then takenN w k else takenN w k + 1
theorem taken_but (j : Nat) : ∀ k, (k ≤ j → takenN j k = k) ∧ (j < k → takenN j k + 1 = k)
  | 0 => ⟨fun _ => rfl, fun h => by omega⟩
  | k + 1 => by
    obtain ⟨h1, h2⟩ := taken_but j k
    simp only [takenN]
    constructor
    · intro h
      rw [if_neg (by omega), h1 (by omega)]
    · intro h
      by_cases hk : k = j
      · subst hk
        rw [if_pos rfl, h1 (Nat.le_refl _)]
      · rw [if_neg (by omega)]
        have := h2 (by omega)
        omega
def rootsN (rs : List (Nat × Nat)) (w : Int) (n k : Nat) : Nat := (List.range n).countP fun x => decide (lab rs w k x = x)
theorem roots_many (rs : List (Nat × Nat)) (w : Int) (n : Nat) : ∀ k, n ≤ rootsN rs w n k + takenN w k
  | 0 => by
    have h : rootsN rs w n 0 = (List.range n).length := List.countP_eq_length.2 fun x _ => by simp [lab]
    rw [h]
    simp
  | k + 1 => by
    have ih := roots_many rs w n k
    by_cases hw : (k : Int) = w
    · have e : rootsN rs w n (k + 1) = rootsN rs w n k := by simp only [rootsN, lab, if_pos hw]
      simp only [takenN, if_pos hw]
      omega
    · simp only [takenN, if_neg hw]
      have h1 : rootsN rs w n k ≤ rootsN rs w n (k + 1) + 1 := by
        refine countP_near (c := lab rs w k (rs.getD k (0, 0)).1) List.nodup_range fun x hx hp => ?_
        simp only [decide_eq_true_eq] at hp ⊢
        simp only [lab, if_neg hw]
        rw [hp, if_neg hx]
      omega
theorem two_of_count {p : Nat → Bool} : ∀ {l : List Nat}, l.Nodup → 2 ≤ l.countP p → ∃ x y, x ∈ l ∧ y ∈ l ∧ x ≠ y ∧ p x = true ∧ p y = true
  | [], _, h => by simp at h
  | a :: l, hd, h => by
    obtain ⟨h1, h2⟩ := List.nodup_cons.1 hd
    by_cases ha : p a = true
    · rw [List.countP_cons, if_pos ha] at h
      have h3 : 0 < l.countP p := by omega
      obtain ⟨y, hy, hp⟩ := List.countP_pos_iff.1 h3
      exact ⟨a, y, List.mem_cons_self .., List.mem_cons_of_mem _ hy, fun e => h1 (e ▸ hy), ha, hp⟩
    · rw [List.countP_cons, if_neg ha] at h
      obtain ⟨x, y, hx, hy, q⟩ := two_of_count h2 (by omega)
      exact ⟨x, y, List.mem_cons_of_mem _ hx, List.mem_cons_of_mem _ hy, q⟩
/-- n spots, n - 1 runs between them, and all hang together. -/
structure TreeR (rs : List (Nat × Nat)) (n : Nat) : Prop where
  len : rs.length + 1 = n
  lt : ∀ k, k < rs.length → (rs.getD k (0, 0)).1 < n ∧ (rs.getD k (0, 0)).2 < n
  all : ∀ y, y < n → Rch rs (-1) 0 y
/-- Without a run its spots are apart. -/
theorem TreeR.bridge {rs : List (Nat × Nat)} {n : Nat} (h : TreeR rs n) {j : Nat} (hj : j < rs.length) {a b : Nat} (hr : rs.getD j (0, 0) = (a, b)) : ¬ Rch rs j a b := by
  intro hab
  have hre : ∀ y, Rch rs (-1) 0 y → Rch rs j 0 y := by
    intro y hy
    induction hy with
    | base => exact .base
    | @fwd x y k _ hk _ hr' ih =>
      by_cases hkj : k = j
      · subst hkj
        rw [hr] at hr'
        injection hr' with e1 e2
        subst e1 e2
        exact ih.trans hab
      · exact .fwd ih hk (by omega) hr'
    | @bwd x y k _ hk _ hr' ih =>
      by_cases hkj : k = j
      · subst hkj
        rw [hr] at hr'
        injection hr' with e1 e2
        subst e1 e2
        exact ih.trans hab.symm
      · exact .bwd ih hk (by omega) hr'
  have h1 := roots_many rs (j : Int) n rs.length
  have h2 := (taken_but j rs.length).2 hj
  have h3 := h.len
  obtain ⟨x, y, hx, hy, hne, hp, hq⟩ := two_of_count List.nodup_range (show 2 ≤ rootsN rs (j : Int) n rs.length by omega)
  simp only [decide_eq_true_eq] at hp hq
  have e1 := lab_rch (hre x (h.all x (by simpa using hx)))
  have e2 := lab_rch (hre y (h.all y (by simpa using hy)))
  exact hne (by rw [← hp, ← hq, ← e1, ← e2])
theorem TreeR.all' {rs : List (Nat × Nat)} {n : Nat} (h : TreeR rs n) {x y : Nat} (hx : x < n) (hy : y < n) : Rch rs (-1) x y := (h.all x hx).symm.trans (h.all y hy)
/-- No two runs between the same spots. -/
theorem TreeR.once {rs : List (Nat × Nat)} {n : Nat} (h : TreeR rs n) {j k : Nat} (hj : j < rs.length) (hk : k < rs.length) {a b : Nat} (hr : rs.getD j (0, 0) = (a, b)) (hr' : rs.getD k (0, 0) = (a, b) ∨ rs.getD k (0, 0) = (b, a)) : j = k := by
  refine Decidable.byContradiction fun hne => h.bridge hj hr ?_
  rcases hr' with h1 | h1
  · exact .fwd .base hk (by omega) h1
  · exact .bwd .base hk (by omega) h1
end Go.Proofs.Ytehadoecnmfeoaa

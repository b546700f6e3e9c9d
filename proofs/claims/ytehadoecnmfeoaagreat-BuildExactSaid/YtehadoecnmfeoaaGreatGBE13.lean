/- Part 13 of this claim's texts: walks and plain laws. -/
import Derived.Test.YtehadoecnmfeoaaGreatRows
import Derived.Test.YtehadoecnmfeoaaGreatGBE11
import Derived.Test.YtehadoecnmfeoaaGreatGBE12
/- What an audit finds: plain laws. -/
namespace Go.Proofs.YtehadoecnmfeoaaGreat
set_option linter.unusedVariables false
/-- A module: its formula and its wires. -/
structure Md where
  f : List Int
  ws : List Int
def Md.o : Md := ⟨[], []⟩
def mdIn (w : Nat) (d : Md) : Bool := d.ws.contains (w : Int)
/-- The formulas of the modules that have a wire. -/
def withL (ms : List Md) (w : Nat) : List (List Int) := (ms.filter (mdIn w)).map Md.f
/-- How many formulas hold. -/
def cntV (fs : List (List Int)) (x : List Bool) : Nat := (fs.filter fun g => evF1 (vf x) g).length
/-- The three kinds of defects: 1 lacks, 2 extra, 3 double. -/
def defB (kind : Nat) (is : Bool) (n : Nat) : Bool :=
  match kind with
  | 1 => is && decide (n = 0)
  | 2 => !is && decide (0 < n)
  | _ => is && decide (1 < n)
def frstV (m : Mo) (f : List Int) (fs : List (List Int)) (kind : Nat) : Option (List Bool) := (allM m).find? fun x => defB kind (evF1 (vf x) f) (cntV fs x)
/-- The sooner one of two. -/
def soon (a b : Option (List Bool)) : Option (List Bool) :=
  match a, b with
  | none, y => y
  | some x, none => some x
  | some x, some y => if befB y x then some y else some x
theorem find_or (P q : List Bool → Bool) : ∀ (L : List (List Bool)), L.Pairwise (fun x y => befB x y = true) → L.find? (fun x => P x || q x) = soon (L.find? P) (L.find? q)
  | [], _ => rfl
  | a :: t, hs => by
    obtain ⟨ha, ht⟩ := List.pairwise_cons.1 hs
    have ih := find_or P q t ht
    rw [List.find?_cons, List.find?_cons, List.find?_cons]
    cases hP : P a with
    | true =>
      simp only [Bool.true_or]
      cases hq : q a with
      | true => simp [soon, befB_self]
      | false =>
        simp only
        cases hy : t.find? q with
        | none => rfl
        | some y =>
          have := befB_asym a y (ha y (List.mem_of_find?_eq_some hy))
          simp [soon, this]
    | false =>
      cases hq : q a with
      | true =>
        simp only [Bool.or_true]
        cases hx : t.find? P with
        | none => rfl
        | some x =>
          have := ha x (List.mem_of_find?_eq_some hx)
          simp [soon, this]
      | false =>
        simp only [Bool.or_false]
        exact ih
theorem head_find {L : List (List Bool)} (p : List Bool → Bool) : (L.filter p).head? = L.find? p := by
  induction L with
  | nil => rfl
  | cons a t ih =>
    rw [List.filter_cons, List.find?_cons]
    cases h : p a with
    | true => simp
    | false =>
      simp only [Bool.false_eq_true, if_false]
      exact ih
theorem cntV_pos {fs : List (List Int)} {x : List Bool} : decide (0 < cntV fs x) = fs.any fun g => evF1 (vf x) g := by
  unfold cntV
  rw [Bool.eq_iff_iff, decide_eq_true_eq, List.length_pos_iff, List.any_eq_true]
  constructor
  · intro h
    obtain ⟨g, hg⟩ := List.exists_mem_of_ne_nil _ h
    exact ⟨g, (List.mem_filter.1 hg).1, by simpa using (List.mem_filter.1 hg).2⟩
  · rintro ⟨g, hg, h⟩ h0
    have : g ∈ fs.filter fun g => evF1 (vf x) g := List.mem_filter.2 ⟨hg, by simpa using h⟩
    rw [h0] at this
    cases this
theorem take_step {fs : List (List Int)} {k : Nat} (hk : k < fs.length) : fs.take (k + 1) = fs.take k ++ [fs.getD k []] := by
  rw [List.take_add_one, List.getElem?_eq_getElem hk, List.getD_eq_getElem?_getD, List.getElem?_eq_getElem hk]
  rfl
/-- The program's search for a variant with too much: behind k formulas. -/
def xtrV (m : Mo) (f : List Int) (fs : List (List Int)) (k : Nat) : Option (List Bool) := (allM m).find? fun x => !evF1 (vf x) f && (fs.take k).any fun g => evF1 (vf x) g
theorem xtrV_zero (m : Mo) (f : List Int) (fs : List (List Int)) : xtrV m f fs 0 = none := by
  unfold xtrV
  rw [List.find?_eq_none]
  intro x _
  simp
theorem xtrV_step {m : Mo} {f : List Int} {fs : List (List Int)} {k : Nat} (hk : k < fs.length) : xtrV m f fs (k + 1) = soon (xtrV m f fs k) ((allM m).find? fun x => evF1 (vf x) (fs.getD k []) && !evF1 (vf x) f) := by
  unfold xtrV
  rw [← find_or _ _ _ (allM_sorted m), take_step hk]
  congr 1
  funext x
  rw [List.any_append]
  cases evF1 (vf x) f <;> simp
theorem xtrV_all (m : Mo) (f : List Int) (fs : List (List Int)) : xtrV m f fs fs.length = frstV m f fs 2 := by
  unfold xtrV frstV
  rw [List.take_length]
  congr 1
  funext x
  show _ = (!evF1 (vf x) f && decide (0 < cntV fs x))
  rw [cntV_pos]
/-- Two formulas of which the later one is before i. -/
def dubB (fs : List (List Int)) (x : List Bool) : Nat → Bool
  | 0 => false
  | i + 1 => dubB fs x i || (evF1 (vf x) (fs.getD i []) && (fs.take i).any fun g => evF1 (vf x) g)
def dubV (m : Mo) (f : List Int) (fs : List (List Int)) (i j : Nat) : Option (List Bool) := (allM m).find? fun x => evF1 (vf x) f && (dubB fs x i || (evF1 (vf x) (fs.getD i []) && (fs.take j).any fun g => evF1 (vf x) g))
theorem dubV_zero (m : Mo) (f : List Int) (fs : List (List Int)) : dubV m f fs 0 0 = none := by
  unfold dubV
  rw [List.find?_eq_none]
  intro x _
  simp [dubB]
theorem dubV_in {m : Mo} {f : List Int} {fs : List (List Int)} {i j : Nat} (hj : j < i) (hi : i < fs.length) : dubV m f fs i (j + 1) = soon (dubV m f fs i j) ((allM m).find? fun x => evF1 (vf x) f && (evF1 (vf x) (fs.getD i []) && evF1 (vf x) (fs.getD j []))) := by
  unfold dubV
  rw [← find_or _ _ _ (allM_sorted m), take_step (by omega)]
  congr 1
  funext x
  rw [List.any_append]
  cases evF1 (vf x) f <;> cases evF1 (vf x) (fs.getD i []) <;> simp [Bool.or_assoc]
theorem dubV_next (m : Mo) (f : List Int) (fs : List (List Int)) (i : Nat) : dubV m f fs i i = dubV m f fs (i + 1) 0 := by
  unfold dubV
  congr 1
  funext x
  simp [dubB]
theorem dubB_all (fs : List (List Int)) (x : List Bool) : ∀ i, i ≤ fs.length → dubB fs x i = decide (1 < cntV (fs.take i) x)
  | 0, _ => by simp [dubB, cntV]
  | i + 1, hi => by
    have ih := dubB_all fs x i (by omega)
    show (dubB fs x i || _) = _
    rw [ih, take_step (by omega), ← cntV_pos]
    unfold cntV
    rw [List.filter_append, List.length_append]
    cases h : evF1 (vf x) (fs.getD i []) with
    | true =>
      simp only [List.filter_cons, h, Bool.true_and, List.filter_nil, if_true, List.length_singleton]
      rw [Bool.eq_iff_iff]
      simp only [Bool.or_eq_true, decide_eq_true_eq]
      omega
    | false =>
      have h2 : evF1 (vf x) (fs[i]?.getD []) = false := by rw [← List.getD_eq_getElem?_getD]; exact h
      simp [h2]
theorem dubV_all (m : Mo) (f : List Int) (fs : List (List Int)) : dubV m f fs fs.length 0 = frstV m f fs 3 := by
  unfold dubV frstV
  congr 1
  funext x
  have h := dubB_all fs x fs.length (Nat.le_refl _)
  rw [List.take_length] at h
  show _ = (evF1 (vf x) f && decide (1 < cntV fs x))
  rw [h]
  simp
/-- The weights with which the program looks for a variant that lacks a wire. -/
theorem lack_sum (x : List Bool) : ∀ (fs : List (List Int)), fsum (vf x) fs (List.replicate fs.length (-1)) = -(cntV fs x : Int)
  | [] => rfl
  | g :: fs => by
    have ih := lack_sum x fs
    show (if evF1 (vf x) g then (-1 : Int) else 0) + fsum (vf x) fs (List.replicate fs.length (-1)) = _
    rw [ih]
    unfold cntV
    cases h : evF1 (vf x) g <;> simp [h] <;> omega
def lackW (fs : List (List Int)) : List Int := ((fs.length + 1 : Nat) : Int) :: List.replicate fs.length (-1)
theorem lack_val {m : Mo} {f : List Int} {fs : List (List Int)} {x : List Bool} (hx : x ∈ allM m) : valF m (f :: fs) (lackW fs) x = (if evF1 (vf x) f then ((fs.length + 1 : Nat) : Int) else 0) - (cntV fs x : Int) := by
  have h1 : allF (vf x) m.rules = true := (List.mem_filter.1 hx).2
  unfold valF
  rw [if_pos h1]
  show (if evF1 (vf x) f then ((fs.length + 1 : Nat) : Int) else 0) + fsum (vf x) fs (List.replicate fs.length (-1)) = _
  rw [lack_sum]
  omega
theorem lack_top {m : Mo} {f : List Int} {fs : List (List Int)} {x : List Bool} (hx : x ∈ allM m) : valF m (f :: fs) (lackW fs) x ≤ ((fs.length + 1 : Nat) : Int) ∧ (valF m (f :: fs) (lackW fs) x = ((fs.length + 1 : Nat) : Int) ↔ defB 1 (evF1 (vf x) f) (cntV fs x) = true) := by
  rw [lack_val hx]
  have h1 : defB 1 (evF1 (vf x) f) (cntV fs x) = (evF1 (vf x) f && decide (cntV fs x = 0)) := rfl
  rw [h1]
  cases evF1 (vf x) f with
  | true => simp; omega
  | false => simp; omega
theorem find_congr6 {p q : List Bool → Bool} : ∀ (L : List (List Bool)), (∀ x ∈ L, p x = q x) → L.find? p = L.find? q
  | [], _ => rfl
  | a :: t, h => by
    rw [List.find?_cons, List.find?_cons, h a (by simp), find_congr6 t fun x hx => h x (by simp [hx])]
theorem find_filter6 (p q : List Bool → Bool) : ∀ (L : List (List Bool)), (L.filter p).find? q = L.find? fun x => p x && q x
  | [] => rfl
  | a :: t => by
    rw [List.filter_cons, List.find?_cons]
    cases hp : p a with
    | true =>
      rw [if_pos rfl, List.find?_cons]
      simp [find_filter6 p q t]
    | false =>
      rw [if_neg (by simp)]
      simp [find_filter6 p q t]
/-- What the greatest sum says. -/
theorem lack_law {m : Mo} {f : List Int} {fs : List (List Int)} {x : List Bool} (hl : fs.length ≤ 1000) (hx : (exts m.opts.length []).find? (fun y => valF m (f :: fs) (lackW fs) y == bestF m (f :: fs) (lackW fs)) = some x) :
    (((fs.length + 1 : Nat) : Int) ≤ bestF m (f :: fs) (lackW fs) → frstV m f fs 1 = some x) ∧ (bestF m (f :: fs) (lackW fs) < ((fs.length + 1 : Nat) : Int) → frstV m f fs 1 = none) := by
  have hmx := List.mem_of_find?_eq_some hx
  have hvx := List.find?_some hx
  simp only [beq_iff_eq] at hvx
  have hbest : ∀ y, y ∈ exts m.opts.length [] → valF m (f :: fs) (lackW fs) y ≤ bestF m (f :: fs) (lackW fs) := fun y hy => maxL_mem _ _ (List.mem_map_of_mem hy)
  constructor
  · intro h
    have hin : x ∈ allM m := by
      refine List.mem_filter.2 ⟨hmx, ?_⟩
      cases ha : allF (vf x) m.rules with
      | true => rfl
      | false =>
        unfold valF at hvx
        rw [ha, if_neg (by simp)] at hvx
        rw [← hvx] at h
        unfold leastI at h
        omega
    have htop := (lack_top (f := f) (fs := fs) hin).1
    rw [← hx]
    unfold frstV allM
    rw [find_filter6]
    refine find_congr6 _ fun y hy => ?_
    cases ha : allF (vf y) m.rules with
    | true =>
      have hyi : y ∈ allM m := List.mem_filter.2 ⟨hy, ha⟩
      have h2 := lack_top (f := f) (fs := fs) hyi
      rw [Bool.true_and, Bool.eq_iff_iff, ← h2.2, beq_iff_eq]
      omega
    | false =>
      have h3 : valF m (f :: fs) (lackW fs) y = leastI := by unfold valF; rw [ha]; rfl
      rw [h3, Bool.false_and]
      symm
      rw [beq_eq_false_iff_ne]
      unfold leastI
      omega
  · intro h
    unfold frstV
    rw [List.find?_eq_none]
    intro y hy hd
    have h2 := lack_top (f := f) (fs := fs) hy
    have h3 := hbest y (List.mem_filter.1 hy).1
    have h4 := h2.2.2 hd
    omega
end Go.Proofs.YtehadoecnmfeoaaGreat

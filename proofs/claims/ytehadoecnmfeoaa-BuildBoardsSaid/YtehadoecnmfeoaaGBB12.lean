/- Part 12 of this claim's texts: walks and plain laws. -/
import Derived.Test.YtehadoecnmfeoaaRows
import Derived.Test.YtehadoecnmfeoaaGBB11
import Derived.Test.YtehadoecnmfeoaaGBB0
/- The way between two spots of a tree: plain laws. -/
namespace Go.Proofs.Ytehadoecnmfeoaa
set_option linter.unusedVariables false
set_option linter.unusedSimpArgs false
set_option linter.unusedSectionVars false
/-- Run k joins x and y. -/
def Inc (rs : List (Nat × Nat)) (k x y : Nat) : Prop := rs.getD k (0, 0) = (x, y) ∨ rs.getD k (0, 0) = (y, x)
theorem Inc.symm {rs : List (Nat × Nat)} {k x y : Nat} (h : Inc rs k x y) : Inc rs k y x := Or.symm h
theorem Rch.step {rs : List (Nat × Nat)} {w : Int} {s x y k : Nat} (h : Rch rs w s x) (hk : k < rs.length) (hw : (k : Int) ≠ w) (hi : Inc rs k x y) : Rch rs w s y := by
  rcases hi with hi | hi
  · exact .fwd h hk hw hi
  · exact .bwd h hk hw hi
theorem Rch.weak {rs : List (Nat × Nat)} {w : Int} {s y : Nat} (h : Rch rs w s y) : Rch rs (-1) s y := by
  induction h with
  | base => exact .base
  | fwd _ hk hw hr ih => exact .fwd ih hk (by omega) hr
  | bwd _ hk hw hr ih => exact .bwd ih hk (by omega) hr
theorem Rch.other {rs : List (Nat × Nat)} {w : Int} {s y v a b : Nat} (h : Rch rs w s y) (hv : rs.getD v (0, 0) = (a, b)) : Rch rs v s y ∨ (Rch rs w s a ∧ Rch rs w s b) := by
  induction h with
  | base => exact .inl .base
  | @fwd x y k hx hk hw hr ih =>
    by_cases hkv : k = v
    · subst hkv
      rw [hr] at hv
      injection hv with e1 e2
      subst e1 e2
      exact .inr ⟨hx, .fwd hx hk hw hr⟩
    · rcases ih with h1 | h1
      · exact .inl (.fwd h1 hk (by omega) hr)
      · exact .inr h1
  | @bwd x y k hx hk hw hr ih =>
    by_cases hkv : k = v
    · subst hkv
      rw [hr] at hv
      injection hv with e1 e2
      subst e1 e2
      exact .inr ⟨.bwd hx hk hw hr, hx⟩
    · rcases ih with h1 | h1
      · exact .inl (.bwd h1 hk (by omega) hr)
      · exact .inr h1
theorem Rch.other' {rs : List (Nat × Nat)} {w : Int} {s y v a b : Nat} (h : Rch rs w s y) (hv : Inc rs v a b) : Rch rs v s y ∨ (Rch rs w s a ∧ Rch rs w s b) := by
  rcases hv with hv | hv
  · exact h.other hv
  · rcases h.other hv with h | h
    · exact .inl h
    · exact .inr ⟨h.2, h.1⟩
section
variable {rs : List (Nat × Nat)} {n : Nat} (T : TreeR rs n)
include T
theorem TreeR.apart {k x y : Nat} (hk : k < rs.length) (h : Inc rs k x y) : ¬ Rch rs k x y := by
  rcases h with h | h
  · exact T.bridge hk h
  · exact fun q => T.bridge hk h q.symm
theorem TreeR.same {j k x y : Nat} (hj : j < rs.length) (hk : k < rs.length) (h1 : Inc rs j x y) (h2 : Inc rs k x y) : j = k := by
  rcases h1 with h1 | h1
  · exact T.once hj hk h1 h2
  · exact T.once hj hk h1 h2.symm
/-- What lies behind the next run lies behind this one. -/
theorem TreeR.side_sub {w : Int} {k x y z : Nat} (hk : k < rs.length) (hne : (k : Int) ≠ w) (hw : w = -1 ∨ ∃ j p, j < rs.length ∧ w = (j : Nat) ∧ Inc rs j p x) (h : Inc rs k x y) (hz : Rch rs k y z) : Rch rs w x z := by
  rcases hw with rfl | ⟨j, p, hj, rfl, hi⟩
  · exact (Rch.step .base hk hne h).trans hz.weak
  · rcases hz.other' hi with h1 | h1
    · exact (Rch.step .base hk hne h).trans h1
    · exact absurd h1.2.symm (T.apart hk h)
/-- One run alone leads from a spot to another one. -/
theorem TreeR.side_one {k1 k2 x y1 y2 z : Nat} (hk1 : k1 < rs.length) (hk2 : k2 < rs.length) (h1 : Inc rs k1 x y1) (h2 : Inc rs k2 x y2) (hz1 : Rch rs k1 y1 z) (hz2 : Rch rs k2 y2 z) : k1 = k2 := by
  refine Decidable.byContradiction fun hne => ?_
  rcases hz1.other' h2 with h | h
  · exact T.apart hk2 h2 ((Rch.step .base hk1 (by omega) h1).trans (h.trans hz2.symm))
  · exact T.apart hk1 h1 h.1.symm
theorem TreeR.side_some {w : Int} {x z : Nat} (h : Rch rs w x z) : x = z ∨ ∃ k y, k < rs.length ∧ (k : Int) ≠ w ∧ Inc rs k x y ∧ Rch rs k y z := by
  have key : ∀ {u z k0 : Nat}, (x = u ∨ ∃ k y, k < rs.length ∧ (k : Int) ≠ w ∧ Inc rs k x y ∧ Rch rs k y u) → k0 < rs.length → (k0 : Int) ≠ w → Inc rs k0 u z → x = z ∨ ∃ k y, k < rs.length ∧ (k : Int) ≠ w ∧ Inc rs k x y ∧ Rch rs k y z := by
    intro u z k0 ih hk0 hw0 hi
    rcases ih with rfl | ⟨k, y, hk, hw, hxy, hu⟩
    · exact .inr ⟨k0, z, hk0, hw0, hi, .base⟩
    · by_cases he : k0 = k
      · subst he
        have h3 : (u = x ∧ z = y) ∨ (u = y ∧ z = x) := by
          rcases hi with h1 | h1 <;> rcases hxy with h2 | h2 <;> rw [h1] at h2 <;> injection h2 with e1 e2 <;> simp_all
        rcases h3 with ⟨rfl, rfl⟩ | ⟨rfl, rfl⟩
        · exact absurd hu.symm (T.apart hk0 hxy)
        · exact .inl rfl
      · exact .inr ⟨k, y, hk, hw, hxy, hu.step hk0 (by omega) hi⟩
  induction h with
  | base => exact .inl rfl
  | fwd _ hk hw hr ih => exact key ih hk hw (.inl hr)
  | bwd _ hk hw hr ih => exact key ih hk hw (.inr hr)
theorem TreeR.inc_lt {k x y : Nat} (hk : k < rs.length) (h : Inc rs k x y) : x < n ∧ y < n := by
  have h1 := T.lt k hk
  rcases h with h | h <;> rw [h] at h1
  · exact h1
  · exact ⟨h1.2, h1.1⟩
end
theorem countP_lt {p q : Nat → Bool} : ∀ {l : List Nat} {c : Nat}, c ∈ l → (∀ x, p x = true → q x = true) → p c = false → q c = true → l.countP p < l.countP q
  | [], _, hc, _, _, _ => by simp at hc
  | a :: l, c, hc, h, hp, hq => by
    simp only [List.countP_cons]
    have hle : l.countP p ≤ l.countP q := List.countP_mono_left fun x _ hx => h x hx
    rcases List.mem_cons.1 hc with rfl | hc
    · rw [hp, hq]; simp; omega
    · have ih := countP_lt hc h hp hq
      by_cases ha : p a = true
      · rw [if_pos ha, if_pos (h a ha)]; omega
      · rw [if_neg ha]; split <;> omega
open Classical in
/-- How many spots lie behind a run. -/
noncomputable def sideN (rs : List (Nat × Nat)) (n : Nat) (w : Int) (x : Nat) : Nat := (List.range n).countP fun z => decide (Rch rs w x z)
section
variable {rs : List (Nat × Nat)} {n : Nat} (T : TreeR rs n)
include T
theorem TreeR.side_less {w : Int} {k x y : Nat} (hk : k < rs.length) (hne : (k : Int) ≠ w) (hw : w = -1 ∨ ∃ j p, j < rs.length ∧ w = (j : Nat) ∧ Inc rs j p x) (h : Inc rs k x y) : sideN rs n k y < sideN rs n w x := by
  unfold sideN
  refine countP_lt (c := x) (by simpa using (T.inc_lt hk h).1) (fun z hz => ?_) ?_ ?_
  · simp only [decide_eq_true_eq] at hz ⊢
    exact T.side_sub hk hne hw h hz
  · simp only [decide_eq_false_iff_not]
    exact fun q => T.apart hk h q.symm
  · simp only [decide_eq_true_eq]
    exact .base
end
/-- The way from a spot to another one, and not back. -/
inductive WayP (rs : List (Nat × Nat)) : Int → Nat → List Nat → Nat → Prop
  | nil {w : Int} {x : Nat} : WayP rs w x [] x
  | cons {w : Int} {x y z k : Nat} {P : List Nat} : k < rs.length → (k : Int) ≠ w → Inc rs k x y → x ≠ z → Rch rs k y z → WayP rs k y P z → WayP rs w x (k :: P) z
theorem inc_det {rs : List (Nat × Nat)} {k x y y' : Nat} (h : Inc rs k x y) (h' : Inc rs k x y') : y = y' := by
  rcases h with h | h <;> rcases h' with h' | h' <;> rw [h] at h' <;> injection h' with e1 e2 <;> simp_all
theorem WayP.one {rs : List (Nat × Nat)} {n : Nat} (T : TreeR rs n) : ∀ {P P' : List Nat} {w w' : Int} {x z : Nat}, WayP rs w x P z → WayP rs w' x P' z → P = P'
  | [], [], _, _, _, _, _, _ => rfl
  | [], _ :: _, _, _, _, _, h, h' => by
    cases h
    cases h' with
    | cons _ _ _ hne _ _ => exact absurd rfl hne
  | _ :: _, [], _, _, _, _, h, h' => by
    cases h'
    cases h with
    | cons _ _ _ hne _ _ => exact absurd rfl hne
  | k :: P, k' :: P', _, _, x, z, h, h' => by
    cases h with
    | cons hk _ hi _ hr hP =>
      cases h' with
      | cons hk' _ hi' _ hr' hP' =>
        have hkk := T.side_one hk hk' hi hi' hr hr'
        subst hkk
        have hyy := inc_det hi hi'
        subst hyy
        rw [WayP.one T hP hP']
/-- There is a way. -/
theorem WayP.some {rs : List (Nat × Nat)} {n : Nat} (T : TreeR rs n) : ∀ (m : Nat) {w : Int} {x z : Nat}, sideN rs n w x ≤ m → (w = -1 ∨ ∃ j p, j < rs.length ∧ w = (j : Nat) ∧ Inc rs j p x) → Rch rs w x z → ∃ P, WayP rs w x P z
  | m, w, x, z, hm, hw, h => by
    rcases T.side_some h with rfl | ⟨k, y, hk, hne, hi, hr⟩
    · exact ⟨[], .nil⟩
    · by_cases hxz : x = z
      · subst hxz; exact ⟨[], .nil⟩
      · have hl := T.side_less hk hne hw hi
        match m, hm with
        | 0, hm => omega
        | m + 1, hm =>
          obtain ⟨P, hP⟩ := WayP.some T m (w := (k : Int)) (by omega) (.inr ⟨k, x, hk, rfl, hi⟩) hr
          exact ⟨k :: P, .cons hk hne hi hxz hr hP⟩
end Go.Proofs.Ytehadoecnmfeoaa
/- The runs of a way are those that part its ends; distances: plain laws. -/
namespace Go.Proofs.Ytehadoecnmfeoaa
set_option linter.unusedVariables false
set_option linter.unusedSimpArgs false
set_option linter.unusedSectionVars false
theorem WayP.mem {rs : List (Nat × Nat)} {n : Nat} (T : TreeR rs n) {w : Int} {x z : Nat} {P : List Nat} (h : WayP rs w x P z) : P.Nodup ∧ ∀ j, j < rs.length → (j ∈ P ↔ ¬ Rch rs j x z) := by
  induction h with
  | nil => exact ⟨List.nodup_nil, fun j _ => ⟨fun q => by simp at q, fun q => absurd .base q⟩⟩
  | @cons w x y z k P hk hne hi hxz hr hP ih =>
    obtain ⟨h1, h2⟩ := ih
    have hkP : k ∉ P := fun q => (h2 k hk).1 q hr
    refine ⟨List.nodup_cons.2 ⟨hkP, h1⟩, fun j hj => ?_⟩
    by_cases hjk : j = k
    · subst hjk
      exact ⟨fun _ q => T.apart hk hi (q.trans hr.symm), fun _ => List.mem_cons_self ..⟩
    · have hxy : Rch rs j x y := Rch.step .base hk (by omega) hi
      constructor
      · intro q
        rcases List.mem_cons.1 q with q | q
        · exact absurd q hjk
        · exact fun q' => (h2 j hj).1 q (hxy.symm.trans q')
      · intro q
        exact List.mem_cons_of_mem _ ((h2 j hj).2 fun q' => q (hxy.trans q'))
theorem WayP.lt {rs : List (Nat × Nat)} {w : Int} {x z : Nat} {P : List Nat} (h : WayP rs w x P z) : ∀ j ∈ P, j < rs.length := by
  induction h with
  | nil => intro j hj; simp at hj
  | cons hk _ _ _ _ _ ih =>
    intro j hj
    rcases List.mem_cons.1 hj with rfl | hj
    · exact hk
    · exact ih j hj
/-- A sum over the first numbers. -/
def sumN (f : Nat → Int) : Nat → Int
  | 0 => 0
  | k + 1 => sumN f k + f k
theorem sumN_congr {f g : Nat → Int} : ∀ {m : Nat}, (∀ k, k < m → f k = g k) → sumN f m = sumN g m
  | 0, _ => rfl
  | m + 1, h => by
    show sumN f m + f m = sumN g m + g m
    rw [sumN_congr fun k hk => h k (by omega), h m (by omega)]
theorem sumN_add (f g : Nat → Int) : ∀ m, sumN (fun k => f k + g k) m = sumN f m + sumN g m
  | 0 => rfl
  | m + 1 => by
    show sumN _ m + (f m + g m) = sumN f m + f m + (sumN g m + g m)
    rw [sumN_add f g m]; omega
theorem sumN_zero : ∀ m, sumN (fun _ => 0) m = 0
  | 0 => rfl
  | m + 1 => by show sumN _ m + 0 = 0; rw [sumN_zero m]; rfl
theorem sumN_one (c : Nat) (v : Int) : ∀ m, sumN (fun k => if k = c then v else 0) m = if c < m then v else 0
  | 0 => by simp [sumN]
  | m + 1 => by
    show sumN _ m + (if m = c then v else 0) = _
    rw [sumN_one c v m]
    by_cases h1 : c < m
    · rw [if_pos h1, if_neg (by omega), if_pos (by omega)]; omega
    · by_cases h2 : m = c
      · rw [if_neg h1, if_pos h2, if_pos (by omega)]; omega
      · rw [if_neg h1, if_neg h2, if_neg (by omega)]; omega
open Classical in
/-- The distance of two spots: the runs that part them. -/
noncomputable def distN (rs : List (Nat × Nat)) (f : Nat → Int) (x z : Nat) : Int := sumN (fun k => if Rch rs k x z then 0 else f k) rs.length
end Go.Proofs.Ytehadoecnmfeoaa
/- Spots joined, and the spot that is nearest to three: plain laws. -/
namespace Go.Proofs.Ytehadoecnmfeoaa
set_option linter.unusedVariables false
set_option linter.unusedSimpArgs false
set_option linter.unusedSectionVars false
theorem rch_edge {rs : List (Nat × Nat)} {j k a b z : Nat} (hk : k < rs.length) (hi : Inc rs k a b) (h : j ≠ k) : Rch rs j a z ↔ Rch rs j b z :=
  ⟨fun q => (Rch.step .base hk (by omega) hi.symm).trans q, fun q => (Rch.step .base hk (by omega) hi).trans q⟩
section
variable {rs : List (Nat × Nat)} {n : Nat} (T : TreeR rs n)
include T
/-- Each spot lies on one side of a run. -/
theorem TreeR.sides {k a b : Nat} (hk : k < rs.length) (hi : Inc rs k a b) {z : Nat} (hz : z < n) : Rch rs k a z ∨ Rch rs k b z := by
  have key : ∀ {u v j : Nat}, (Rch rs k a u ∨ Rch rs k b u) → j < rs.length → Inc rs j u v → Rch rs k a v ∨ Rch rs k b v := by
    intro u v j ih hj hju
    by_cases hjk : j = k
    · subst hjk
      have h3 : (u = a ∧ v = b) ∨ (u = b ∧ v = a) := by
        rcases hju with h1 | h1 <;> rcases hi with h2 | h2 <;> rw [h1] at h2 <;> injection h2 with e1 e2 <;> simp_all
      rcases h3 with ⟨_, rfl⟩ | ⟨_, rfl⟩
      · exact .inr .base
      · exact .inl .base
    · rcases ih with h | h
      · exact .inl (h.step hj (by omega) hju)
      · exact .inr (h.step hj (by omega) hju)
  have h := T.all' (T.inc_lt hk hi).1 hz
  induction h with
  | base => exact .inl .base
  | @fwd x y j hx hj _ hr ih => exact key (ih (by have := T.lt j hj; rw [hr] at this; exact this.1)) hj (.inl hr)
  | @bwd x y j hx hj _ hr ih => exact key (ih (by have := T.lt j hj; rw [hr] at this; exact this.2)) hj (.inr hr)
open Classical in
/-- The far end of a run is farther by its length. -/
theorem TreeR.dist_edge {k a b s : Nat} (hk : k < rs.length) (hi : Inc rs k a b) (f : Nat → Int) (h : Rch rs k a s) : distN rs f b s = distN rs f a s + f k := by
  have hn : ¬ Rch rs k b s := fun q => T.apart hk hi (h.trans q.symm)
  have e : distN rs f b s = sumN (fun j => (if Rch rs j a s then 0 else f j) + (if j = k then f k else 0)) rs.length := by
    unfold distN
    refine sumN_congr fun j hj => ?_
    by_cases hjk : j = k
    · subst hjk
      rw [if_neg hn, if_pos h, if_pos rfl]; omega
    · rw [if_neg hjk]
      by_cases hq : Rch rs j a s
      · rw [if_pos hq, if_pos ((rch_edge hk hi hjk).1 hq)]; rfl
      · rw [if_neg hq, if_neg (fun q => hq ((rch_edge hk hi hjk).2 q))]; omega
  rw [e, sumN_add, sumN_one, if_pos hk]
  unfold distN
  congr 1
open Classical in
/-- The length of the runs that part some of the spots. -/
noncomputable def joinN (rs : List (Nat × Nat)) (f : Nat → Int) (l : List Nat) : Int := sumN (fun k => if ∃ x ∈ l, ∃ y ∈ l, ¬ Rch rs k x y then f k else 0) rs.length
/-- The first run towards a spot has behind it all that a run on the way has. -/
theorem TreeR.first_run {s x y k k' y' : Nat} (hk : k < rs.length) (hk' : k' < rs.length) (hi : Inc rs k' s y') (hr : Rch rs k' y' x) (h1 : ¬ Rch rs k s x) (h2 : ¬ Rch rs k s y) : ¬ Rch rs k' s y := by
  by_cases he : k' = k
  · subst he; exact h2
  · intro q
    obtain ⟨a, b, hab⟩ : ∃ a b, rs.getD k (0, 0) = (a, b) := ⟨_, _, rfl⟩
    rcases q.other hab with q1 | q1
    · exact h2 q1
    · rcases hr.other hab with q2 | q2
      · exact h1 ((Rch.step .base hk' (by omega) hi).trans q2)
      · exact T.apart hk' hi (q1.1.trans q2.1.symm)
end
def dist3 (rs : List (Nat × Nat)) (d : Nat → Nat → Int) (s x y z : Nat) : Int := d s x + d s y + d s z
section
variable {rs : List (Nat × Nat)} {n : Nat} (T : TreeR rs n) {f : Nat → Int} (hf : ∀ k, k < rs.length → 1 ≤ f k)
include T hf
end
end Go.Proofs.Ytehadoecnmfeoaa
/- The list of what is reached, in order: each spot but the first has a neighbour before it; distances measured along it: plain laws. -/
namespace Go.Proofs.Ytehadoecnmfeoaa
set_option linter.unusedVariables false
set_option linter.unusedSimpArgs false
set_option linter.unusedSectionVars false
/-- Each but the first has a neighbour before it. -/
def ParL (rs : List (Nat × Nat)) (w : Int) (out : List Nat) : Prop := ∀ p, 0 < p → p < out.length → ∃ q k, q < p ∧ k < rs.length ∧ (k : Int) ≠ w ∧ Inc rs k (out.getD q 0) (out.getD p 0)
theorem snoc_getD {l : List Nat} {b i : Nat} (h : i < l.length) : (l ++ [b]).getD i 0 = l.getD i 0 := pre_getD (List.prefix_append _ _) h
theorem snoc_last {l : List Nat} {b : Nat} : (l ++ [b]).getD l.length 0 = b := by simp [List.getD_eq_getElem?_getD]
theorem ParL.stepA {rs : List (Nat × Nat)} {w : Int} {out : List Nat} (h : ParL rs w out) {i x k a b : Nat} (hi : i < out.length) (hx : out.getD i 0 = x) (hk : k < rs.length) (hr : Inc rs k a b) : ParL rs w (stepA w x out k a b) := by
  unfold Go.Proofs.Ytehadoecnmfeoaa.stepA
  split
  · rename_i h1
    obtain ⟨h1, rfl, h3⟩ := h1
    intro p hp hl
    by_cases hpl : p < out.length
    · obtain ⟨q, j, hq, hj, hw, hinc⟩ := h p hp hpl
      exact ⟨q, j, hq, hj, hw, by rw [snoc_getD (by omega), snoc_getD hpl]; exact hinc⟩
    · have hpe : p = out.length := by simp at hl; omega
      subst hpe
      exact ⟨i, k, hi, hk, h1, by rw [snoc_getD hi, snoc_last, hx]; exact hr⟩
  · exact h
theorem getD_inj {l : List Nat} (hd : l.Nodup) {p q : Nat} (hp : p < l.length) (hq : q < l.length) (h : l.getD p 0 = l.getD q 0) : p = q := by
  rw [List.getD_eq_getElem?_getD, List.getD_eq_getElem?_getD, List.getElem?_eq_getElem hp, List.getElem?_eq_getElem hq] at h
  simp only [Option.getD_some] at h
  have hpw := List.pairwise_iff_getElem.1 hd
  rcases Nat.lt_trichotomy p q with h1 | h1 | h1
  · exact absurd h (hpw p q hp hq h1)
  · exact h1
  · exact absurd h.symm (hpw q p hq hp h1)
/-- What stands before a spot in the list hangs together without the runs of that spot. -/
theorem ParL.before {rs : List (Nat × Nat)} {w : Int} {l : List Nat} (h : ParL rs w l) (hd : l.Nodup) {p k : Nat} (hp : p < l.length) {a : Nat} (hi : Inc rs k a (l.getD p 0)) : ∀ q, q < p → Rch rs k (l.getD 0 0) (l.getD q 0)
  | 0, _ => .base
  | q + 1, hq => by
    obtain ⟨r, j, hr, hj, _, hinc⟩ := h (q + 1) (by omega) (by omega)
    have ih := ParL.before h hd hp hi r (by omega)
    refine ih.step hj (fun e => ?_) hinc
    have e' : j = k := by omega
    subst e'
    have h3 : l.getD p 0 = l.getD r 0 ∨ l.getD p 0 = l.getD (q + 1) 0 := by
      rcases hinc with h1 | h1 <;> rcases hi with h2 | h2 <;> rw [h1] at h2 <;> injection h2 with e1 e2
      · exact .inr e2.symm
      · exact .inl e1.symm
      · exact .inl e2.symm
      · exact .inr e1.symm
    rcases h3 with h3 | h3
    · have := getD_inj hd hp (by omega) h3; omega
    · have := getD_inj hd hp (by omega) h3; omega
termination_by q => q
end Go.Proofs.Ytehadoecnmfeoaa
/- The wires through a run; copper: plain laws. -/
namespace Go.Proofs.Ytehadoecnmfeoaa
set_option linter.unusedVariables false
set_option linter.unusedSimpArgs false
set_option linter.unusedSectionVars false
section
variable {rs : List (Nat × Nat)} {n : Nat} (T : TreeR rs n)
include T
/-- Two spots are parted by a run exactly if one alone lies on its first spot's side. -/
theorem TreeR.part {k a b x y : Nat} (hk : k < rs.length) (hi : Inc rs k a b) (hx : x < n) (hy : y < n) : (Rch rs k a x ↔ Rch rs k a y) ↔ Rch rs k x y := by
  constructor
  · intro h
    rcases T.sides hk hi hx with h1 | h1 <;> rcases T.sides hk hi hy with h2 | h2
    · exact h1.symm.trans h2
    · exact h1.symm.trans (h.1 h1)
    · exact (h.2 h2).symm.trans h2
    · exact h1.symm.trans h2
  · intro h
    exact ⟨fun q => q.trans h, fun q => q.trans h.symm⟩
/-- The list of a side, as the program takes it. -/
theorem TreeR.side_list {k a b x y i : Nat} (hk : k < rs.length) (hi : Inc rs k a b) (hx : x < n) (hy : y < n) (hl : (stR rs k a i).length ≤ i) : (decide (x ∈ stR rs k a i) != decide (y ∈ stR rs k a i)) = true ↔ ¬ Rch rs k x y := by
  rw [← T.part hk hi hx hy, ← stR_all hl x, ← stR_all hl y]
  by_cases h1 : x ∈ stR rs k a i <;> by_cases h2 : y ∈ stR rs k a i <;> simp [h1, h2]
end
/-- The order of two sums does not matter. -/
theorem sumN_swap (g : Nat → Nat → Int) (m : Nat) : ∀ k, sumN (fun i => sumN (fun j => g i j) m) k = sumN (fun j => sumN (fun i => g i j) k) m
  | 0 => by
    show (0 : Int) = sumN (fun j => 0) m
    rw [sumN_zero]
  | k + 1 => by
    show sumN _ k + sumN (fun j => g k j) m = sumN (fun j => sumN (fun i => g i j) k + g k j) m
    rw [sumN_swap g m k, ← sumN_add]
theorem sumN_mul (f : Nat → Int) (c : Int) : ∀ m, sumN f m * c = sumN (fun k => f k * c) m
  | 0 => by simp [sumN]
  | m + 1 => by
    show (sumN f m + f m) * c = sumN _ m + f m * c
    rw [Int.add_mul, sumN_mul f c m]
open Classical in
/-- The copper of all wires is that of all runs. -/
theorem copper_runs (rs : List (Nat × Nat)) (f : Nat → Int) (m : Nat) (has : Nat → Bool) (size : Nat → Int) (u v : Nat → Nat) :
    sumN (fun i => if has i then distN rs f (u i) (v i) * size i else 0) m = sumN (fun k => sumN (fun i => if has i ∧ ¬ Rch rs k (u i) (v i) then size i else 0) m * f k) rs.length := by
  have e1 : ∀ i, (if has i = true then distN rs f (u i) (v i) * size i else 0) = sumN (fun k => (if has i = true ∧ ¬ Rch rs k (u i) (v i) then size i else 0) * f k) rs.length := by
    intro i
    by_cases hh : has i = true
    · rw [if_pos hh]
      unfold distN
      rw [sumN_mul]
      refine sumN_congr fun k _ => ?_
      by_cases hr : Rch rs k (u i) (v i)
      · rw [if_pos hr, if_neg (fun q => q.2 hr)]; simp
      · rw [if_neg hr, if_pos ⟨hh, hr⟩, Int.mul_comm]
    · rw [if_neg hh, sumN_congr (g := fun _ => 0) (fun k _ => by rw [if_neg (fun q => hh q.1)]; simp), sumN_zero]
  rw [sumN_congr fun i _ => e1 i, sumN_swap]
  refine sumN_congr fun k _ => ?_
  rw [sumN_mul]
end Go.Proofs.Ytehadoecnmfeoaa
/- The spots of a way; what a search over the runs of a spot finds: plain laws. -/
namespace Go.Proofs.Ytehadoecnmfeoaa
set_option linter.unusedVariables false
set_option linter.unusedSimpArgs false
set_option linter.unusedSectionVars false
/-- The other end of a run. -/
def farEnd (rs : List (Nat × Nat)) (k x : Nat) : Nat := if (rs.getD k (0, 0)).1 = x then (rs.getD k (0, 0)).2 else (rs.getD k (0, 0)).1
/-- The spots of a way. -/
def spotsW (rs : List (Nat × Nat)) : Nat → List Nat → List Nat
  | x, [] => [x]
  | x, k :: P => x :: spotsW rs (farEnd rs k x) P
theorem inc_far {rs : List (Nat × Nat)} {k x y : Nat} (h : Inc rs k x y) : farEnd rs k x = y := by
  unfold farEnd
  rcases h with h | h <;> rw [h] <;> simp only
  · simp
  · split
    · rename_i h1; exact h1.symm
    · rfl
theorem spotsW_first (rs : List (Nat × Nat)) (x : Nat) (P : List Nat) : (spotsW rs x P).getD 0 0 = x := by cases P <;> rfl
theorem WayP.step {rs : List (Nat × Nat)} {w : Int} {x z : Nat} {P : List Nat} (h : WayP rs w x P z) : ∀ t, t < P.length → P.getD t 0 < rs.length ∧ Inc rs (P.getD t 0) ((spotsW rs x P).getD t 0) ((spotsW rs x P).getD (t + 1) 0) := by
  induction h with
  | nil => intro t ht; simp at ht
  | @cons w x y z k P hk _ hi _ _ _ ih =>
    intro t ht
    simp only [spotsW, inc_far hi]
    match t, ht with
    | 0, _ =>
      refine ⟨hk, ?_⟩
      have h1 := spotsW_first rs y P
      simp only [List.getD_cons_zero, List.getD_cons_succ]
      rw [h1]; exact hi
    | t + 1, ht =>
      have := ih t (by simpa using ht)
      simpa using this
section
variable {rs : List (Nat × Nat)} {n : Nat} (T : TreeR rs n)
include T
end
/-- The program's list of what is reached has at most as many rounds as spots: it comes to its end. -/
theorem stR_ends {rs : List (Nat × Nat)} {w : Int} {s n : Nat} (hs : s < n) (hrs : ∀ k, k < rs.length → (rs.getD k (0, 0)).1 < n ∧ (rs.getD k (0, 0)).2 < n) : (stR rs w s n).length ≤ n := stR_len hs hrs n
end Go.Proofs.Ytehadoecnmfeoaa
/- What can be reached in a loom: the reference's marks: plain laws. -/
namespace Go.Proofs.Ytehadoecnmfeoaa
set_option linter.unusedVariables false
set_option linter.unusedSimpArgs false
set_option linter.unusedSectionVars false
def setM (m : List Bool) (a b : Nat) : List Bool := m.set a (m.getD a false || m.getD b false)
def stepM (m : List Bool) (r : Nat × Nat) : List Bool := setM (setM m r.1 r.2) r.2 r.1
def scanM (rs : List (Nat × Nat)) (m : List Bool) : Nat → List Bool
  | 0 => m
  | k + 1 => stepM (scanM rs m k) (rs.getD k (0, 0))
def passM (rs : List (Nat × Nat)) (n : Nat) : Nat → List Bool
  | 0 => (List.replicate n false).set 0 true
  | j + 1 => scanM rs (passM rs n j) rs.length
/-- More marks. -/
def LeM (m m' : List Bool) : Prop := m.length = m'.length ∧ ∀ y, m.getD y false = true → m'.getD y false = true
theorem LeM.refl (m : List Bool) : LeM m m := ⟨rfl, fun _ h => h⟩
theorem LeM.trans {a b c : List Bool} (h : LeM a b) (k : LeM b c) : LeM a c := ⟨h.1.trans k.1, fun y q => k.2 y (h.2 y q)⟩
section
variable {rs : List (Nat × Nat)} {n : Nat} (hn : 0 < n) (hrs : ∀ k, k < rs.length → (rs.getD k (0, 0)).1 < n ∧ (rs.getD k (0, 0)).2 < n)
include hn hrs
end
end Go.Proofs.Ytehadoecnmfeoaa
/- Looms, and which error one has. Plain. -/
namespace Go.Proofs.Ytehadoecnmfeoaa
set_option linter.unusedVariables false
set_option linter.unusedSimpArgs false
structure Sp where
  x : Int
  y : Int
  z : Int
def Sp.o : Sp := ⟨0, 0, 0⟩
structure Ru where
  a : Int
  b : Int
  len : Int
  room : Int
def Ru.o : Ru := ⟨0, 0, 0, 0⟩
structure Pl where
  name : ByteArray
  spot : Int
  cav : Int
def Pl.o : Pl := ⟨ByteArray.empty, 0, 0⟩
structure Wi where
  name : ByteArray
  fp : Int
  fc : Int
  tp : Int
  tc : Int
  size : Int
  form : List Int
def Wi.o : Wi := ⟨ByteArray.empty, 0, 0, 0, 0, 0, []⟩
/-- A loom. -/
structure Lo where
  m : Mo
  ss : List Sp
  us : List Ru
  ps : List Pl
  ws : List Wi

/-- A name of a plug or wire: one to eight small letters. -/
def lowB (l : List UInt8) : Bool := decide (1 ≤ l.length) && decide (l.length ≤ 8) && l.all smN
def btw (n lo hi : Int) : Bool := decide (lo ≤ n) && decide (n ≤ hi)
theorem btw_iff {n lo hi : Int} : btw n lo hi = true ↔ lo ≤ n ∧ n ≤ hi := by simp [btw]
def Sp.ok (s : Sp) : Bool := btw s.x (-100000) 100000 && btw s.y (-100000) 100000 && btw s.z (-100000) 100000
def sqS (a b : Sp) : Int := (a.x - b.x) * (a.x - b.x) + (a.y - b.y) * (a.y - b.y) + (a.z - b.z) * (a.z - b.z)
def Ru.ok (ss : List Sp) (r : Ru) : Bool :=
  btw r.a 0 ((ss.length : Int) - 1) && btw r.b 0 ((ss.length : Int) - 1) && decide (r.a ≠ r.b) && btw r.len 1 1000000 && btw r.room 0 1000000 && decide (sqS (ss.getD r.a.toNat Sp.o) (ss.getD r.b.toNat Sp.o) ≤ r.len * r.len)
/-- The runs, as pairs of spots. -/
def Lo.rs (l : Lo) : List (Nat × Nat) := l.us.map fun r => (r.a.toNat, r.b.toNat)
def bytes (s : ByteArray) : List UInt8 := s.data.toList
def plOk (l : Lo) (i : Nat) : Bool :=
  lowB (bytes (l.ps.getD i Pl.o).name) && !((l.ps.take i).any fun q => bytes q.name == bytes (l.ps.getD i Pl.o).name) && btw (l.ps.getD i Pl.o).spot 0 ((l.ss.length : Int) - 1) && btw (l.ps.getD i Pl.o).cav 1 40
def pinOk (l : Lo) (p c : Int) : Bool := btw p 0 ((l.ps.length : Int) - 1) && btw c 0 ((l.ps.getD p.toNat Pl.o).cav - 1)
def wiOk (l : Lo) (i : Nat) : Bool :=
  lowB (bytes (l.ws.getD i Wi.o).name) && !((l.ws.take i).any fun q => bytes q.name == bytes (l.ws.getD i Wi.o).name) && pinOk l (l.ws.getD i Wi.o).fp (l.ws.getD i Wi.o).fc && pinOk l (l.ws.getD i Wi.o).tp (l.ws.getD i Wi.o).tc &&
    !(decide ((l.ws.getD i Wi.o).fp = (l.ws.getD i Wi.o).tp) && decide ((l.ws.getD i Wi.o).fc = (l.ws.getD i Wi.o).tc)) && btw (l.ws.getD i Wi.o).size 1 10000
/-- The error of the wire with a number. -/
def wiErr (l : Lo) (i : Nat) : Int := if wiOk l i = false then 63 else if validF l.m.opts.length (l.ws.getD i Wi.o).form = false then 11 else 0
/-- The first error of the first wires. -/
def wiresErr (l : Lo) : Nat → Int
  | 0 => 0
  | i + 1 => if wiresErr l i ≠ 0 then wiresErr l i else wiErr l i
/-- Whether the runs are a tree, as the program looks. -/
def Lo.full (l : Lo) : Bool := decide ((stR l.rs (-1) 0 l.ss.length).length = l.ss.length)
def Lo.many (l : Lo) : Bool := decide (40 < l.ss.length) || decide (40 < l.us.length) || decide (30 < l.ps.length) || decide (60 < l.ws.length)
def Lo.err (l : Lo) : Int :=
  if l.m.err ≠ 0 then l.m.err else if l.many then 2 else if l.ss.all Sp.ok = false then 60 else if l.ss.length = 0 ∨ l.us.length + 1 ≠ l.ss.length then 61 else if l.us.all (Ru.ok l.ss) = false then 61 else if l.full = false then 61
  else if (List.range l.ps.length).all (plOk l) = false then 62 else wiresErr l l.ws.length
/-- A loom without an error. -/
structure LoOk (l : Lo) : Prop where
  m : l.m.err = 0
  s40 : l.ss.length ≤ 40
  u40 : l.us.length ≤ 40
  p30 : l.ps.length ≤ 30
  w60 : l.ws.length ≤ 60
  ss : ∀ x ∈ l.ss, x.ok = true
  us : ∀ x ∈ l.us, x.ok l.ss = true
  tree : TreeR l.rs l.ss.length
  ps : ∀ i, i < l.ps.length → plOk l i = true
  ws : ∀ i, i < l.ws.length → wiErr l i = 0
theorem rs_getD (l : Lo) {k : Nat} (hk : k < l.us.length) : l.rs.getD k (0, 0) = ((l.us.getD k Ru.o).a.toNat, (l.us.getD k Ru.o).b.toNat) := by
  simp [Lo.rs, hk]
theorem rs_len (l : Lo) : l.rs.length = l.us.length := by simp [Lo.rs]
theorem rs_lt {l : Lo} (h : ∀ x ∈ l.us, x.ok l.ss = true) : ∀ k, k < l.rs.length → (l.rs.getD k (0, 0)).1 < l.ss.length ∧ (l.rs.getD k (0, 0)).2 < l.ss.length := by
  intro k hk
  rw [rs_len] at hk
  rw [rs_getD l hk]
  have h1 := h (l.us.getD k Ru.o) (by rw [List.getD_eq_getElem?_getD, List.getElem?_eq_getElem hk]; exact List.getElem_mem hk)
  unfold Ru.ok at h1
  simp only [Bool.and_eq_true, btw_iff] at h1
  obtain ⟨⟨⟨⟨⟨h2, h3⟩, _⟩, _⟩, _⟩, _⟩ := h1
  constructor <;> simp only <;> omega
theorem wiresErr_zero {l : Lo} : ∀ {n : Nat}, wiresErr l n = 0 → ∀ i, i < n → wiErr l i = 0
  | 0, _, i, hi => by omega
  | n + 1, h, i, hi => by
    have h' : (if wiresErr l n ≠ 0 then wiresErr l n else wiErr l n) = 0 := h
    by_cases h1 : wiresErr l n = 0
    · rw [if_neg (by simp [h1])] at h'
      rcases Nat.lt_or_ge i n with h2 | h2
      · exact wiresErr_zero h1 i h2
      · rw [show i = n by omega]; exact h'
    · rw [if_pos h1] at h'
      exact absurd h' h1
theorem Lo.err_ok {l : Lo} (h : l.err = 0) : LoOk l := by
  unfold Lo.err at h
  by_cases h1 : l.m.err = 0
  · rw [if_neg (by simp [h1])] at h
    by_cases h2 : l.many = true
    · rw [if_pos h2] at h; omega
    rw [if_neg h2] at h
    by_cases h3 : l.ss.all Sp.ok = false
    · rw [if_pos h3] at h; omega
    rw [if_neg h3] at h
    by_cases h4 : l.ss.length = 0 ∨ l.us.length + 1 ≠ l.ss.length
    · rw [if_pos h4] at h; omega
    rw [if_neg h4] at h
    by_cases h5 : l.us.all (Ru.ok l.ss) = false
    · rw [if_pos h5] at h; omega
    rw [if_neg h5] at h
    by_cases h6 : l.full = false
    · rw [if_pos h6] at h; omega
    rw [if_neg h6] at h
    by_cases h7 : (List.range l.ps.length).all (plOk l) = false
    · rw [if_pos h7] at h; omega
    rw [if_neg h7] at h
    simp only [Lo.many, Bool.or_eq_true, decide_eq_true_eq, not_or] at h2
    have hu : ∀ x ∈ l.us, x.ok l.ss = true := List.all_eq_true.1 (by simpa using h5)
    have hn : 0 < l.ss.length := by omega
    have hf : (stR l.rs (-1) 0 l.ss.length).length = l.ss.length := by simpa [Lo.full] using h6
    exact ⟨h1, by omega, by omega, by omega, by omega, List.all_eq_true.1 (by simpa using h3), hu,
      ⟨by rw [rs_len]; omega, rs_lt hu, (stR_full hn (rs_lt hu) (stR_ends hn (rs_lt hu))).1 hf⟩,
      fun i hi => by have := List.all_eq_true.1 (show (List.range l.ps.length).all (plOk l) = true by simpa using h7) i (by simpa using hi); exact this, wiresErr_zero h⟩
  · rw [if_pos h1] at h
    exact absurd h h1
end Go.Proofs.Ytehadoecnmfeoaa
/- The wires through a run; the example of the laws: plain. -/
namespace Go.Proofs.Ytehadoecnmfeoaa
set_option linter.unusedVariables false
set_option linter.unusedSimpArgs false
set_option linter.unusedSectionVars false
/-- The spots of a wire's plugs. -/
def endF (l : Lo) (i : Nat) : Nat := (l.ps.getD (l.ws.getD i Wi.o).fp.toNat Pl.o).spot.toNat
def endT (l : Lo) (i : Nat) : Nat := (l.ps.getD (l.ws.getD i Wi.o).tp.toNat Pl.o).spot.toNat
def sideL (l : Lo) (run : Nat) : List Nat := stR l.rs run (l.rs.getD run (0, 0)).1 l.ss.length
def thruB (l : Lo) (run i : Nat) : Bool := decide (endF l i ∈ sideL l run) != decide (endT l i ∈ sideL l run)
def thruL (l : Lo) (run : Nat) : List Nat := (List.range l.ws.length).filter (thruB l run)
def runLen (l : Lo) (k : Nat) : Int := (l.us.getD k Ru.o).len
section
variable {l : Lo} (h : LoOk l)
include h
theorem LoOk.wi {i : Nat} (hi : i < l.ws.length) : wiOk l i = true ∧ validF l.m.opts.length (l.ws.getD i Wi.o).form = true := by
  have h1 := h.ws i hi
  unfold wiErr at h1
  by_cases h2 : wiOk l i = false
  · rw [if_pos h2] at h1; omega
  · rw [if_neg h2] at h1
    by_cases h3 : validF l.m.opts.length (l.ws.getD i Wi.o).form = false
    · rw [if_pos h3] at h1; omega
    · exact ⟨by simpa using h2, by simpa using h3⟩
theorem LoOk.pin {p c : Int} (hp : pinOk l p c = true) : 0 ≤ p ∧ p.toNat < l.ps.length ∧ 0 ≤ (l.ps.getD p.toNat Pl.o).spot ∧ (l.ps.getD p.toNat Pl.o).spot.toNat < l.ss.length := by
  unfold pinOk at hp
  simp only [Bool.and_eq_true, btw_iff] at hp
  obtain ⟨⟨h1, h2⟩, _⟩ := hp
  have h3 := h.ps p.toNat (by omega)
  unfold plOk at h3
  simp only [Bool.and_eq_true, btw_iff] at h3
  obtain ⟨⟨_, h4, h5⟩, _⟩ := h3
  exact ⟨h1, by omega, h4, by omega⟩
theorem LoOk.ends {i : Nat} (hi : i < l.ws.length) : endF l i < l.ss.length ∧ endT l i < l.ss.length := by
  have h1 := (h.wi hi).1
  unfold wiOk at h1
  simp only [Bool.and_eq_true] at h1
  obtain ⟨⟨⟨⟨_, h2⟩, h3⟩, _⟩, _⟩ := h1
  exact ⟨(h.pin h2).2.2.2, (h.pin h3).2.2.2⟩
theorem LoOk.len {k : Nat} (hk : k < l.us.length) : 1 ≤ runLen l k ∧ runLen l k ≤ 1000000 := by
  have h1 := h.us (l.us.getD k Ru.o) (by rw [List.getD_eq_getElem?_getD, List.getElem?_eq_getElem hk]; exact List.getElem_mem hk)
  unfold Ru.ok at h1
  simp only [Bool.and_eq_true, btw_iff] at h1
  obtain ⟨⟨⟨_, h2⟩, _⟩, _⟩ := h1
  exact h2
/-- A wire goes through a run exactly if the run parts its ends. -/
theorem LoOk.thru {run i : Nat} (hr : run < l.us.length) (hi : i < l.ws.length) : thruB l run i = true ↔ ¬ Rch l.rs run (endF l i) (endT l i) := by
  have hrl : run < l.rs.length := by rw [rs_len]; exact hr
  obtain ⟨a, b, hab⟩ : ∃ a b, l.rs.getD run (0, 0) = (a, b) := ⟨_, _, rfl⟩
  have he := h.ends hi
  have hlt := h.tree.lt run hrl
  unfold thruB sideL
  rw [hab] at hlt ⊢
  exact h.tree.side_list hrl (.inl hab) he.1 he.2 (stR_ends hlt.1 h.tree.lt)
/-- .. and that is: if it is on its way. -/
theorem LoOk.way {run i : Nat} (hr : run < l.us.length) (hi : i < l.ws.length) {w : Int} {P : List Nat} (hP : WayP l.rs w (endF l i) P (endT l i)) : run ∈ P ↔ thruB l run i = true := by
  rw [h.thru hr hi]
  exact (hP.mem h.tree).2 run (by rw [rs_len]; exact hr)
end
end Go.Proofs.Ytehadoecnmfeoaa

/- Part 9 of this claim's texts: walks and plain laws. -/
import Derived.Test.YtehadoecnmfeoaaGreatRows
import Derived.Test.YtehadoecnmfeoaaGreatGBY8
/- The way between two spots of a tree: plain laws. -/
namespace Go.Proofs.YtehadoecnmfeoaaGreat
set_option linter.unusedVariables false
set_option linter.unusedSimpArgs false
set_option linter.unusedSectionVars false
/-- Run k joins x and y. -/
def Inc (rs : List (Nat × Nat)) (k x y : Nat) : Prop := rs.getD k (0, 0) = (x, y) ∨ rs.getD k (0, 0) = (y, x)
theorem Inc.symm {rs : List (Nat × Nat)} {k x y : Nat} (h : Inc rs k x y) : Inc rs k y x := Or.symm h
theorem Rch.step {rs : List (Nat × Nat)} {w : Int} {s x y k : Nat} (h : Rch rs w s x) (hk : k < rs.length) (hw : (k : Int) ≠ w) (hi : Inc rs k x y) : Rch rs w s y := by
  rcases hi with hi | hi
  · exact .fwd h hk hw hi
  · exact .bwd h hk hw hi
theorem Rch.weak {rs : List (Nat × Nat)} {w : Int} {s y : Nat} (h : Rch rs w s y) : Rch rs (-1) s y := by
  induction h with
  | base => exact .base
  | fwd _ hk hw hr ih => exact .fwd ih hk (by omega) hr
  | bwd _ hk hw hr ih => exact .bwd ih hk (by omega) hr
theorem Rch.other {rs : List (Nat × Nat)} {w : Int} {s y v a b : Nat} (h : Rch rs w s y) (hv : rs.getD v (0, 0) = (a, b)) : Rch rs v s y ∨ (Rch rs w s a ∧ Rch rs w s b) := by
  induction h with
  | base => exact .inl .base
  | @fwd x y k hx hk hw hr ih =>
    by_cases hkv : k = v
    · subst hkv
      rw [hr] at hv
      injection hv with e1 e2
      subst e1 e2
      exact .inr ⟨hx, .fwd hx hk hw hr⟩
    · rcases ih with h1 | h1
      · exact .inl (.fwd h1 hk (by omega) hr)
      · exact .inr h1
  | @bwd x y k hx hk hw hr ih =>
    by_cases hkv : k = v
    · subst hkv
      rw [hr] at hv
      injection hv with e1 e2
      subst e1 e2
      exact .inr ⟨.bwd hx hk hw hr, hx⟩
    · rcases ih with h1 | h1
      · exact .inl (.bwd h1 hk (by omega) hr)
      · exact .inr h1
theorem Rch.other' {rs : List (Nat × Nat)} {w : Int} {s y v a b : Nat} (h : Rch rs w s y) (hv : Inc rs v a b) : Rch rs v s y ∨ (Rch rs w s a ∧ Rch rs w s b) := by
  rcases hv with hv | hv
  · exact h.other hv
  · rcases h.other hv with h | h
    · exact .inl h
    · exact .inr ⟨h.2, h.1⟩
section
variable {rs : List (Nat × Nat)} {n : Nat} (T : TreeR rs n)
include T
theorem TreeR.apart {k x y : Nat} (hk : k < rs.length) (h : Inc rs k x y) : ¬ Rch rs k x y := by
  rcases h with h | h
  · exact T.bridge hk h
  · exact fun q => T.bridge hk h q.symm
theorem TreeR.same {j k x y : Nat} (hj : j < rs.length) (hk : k < rs.length) (h1 : Inc rs j x y) (h2 : Inc rs k x y) : j = k := by
  rcases h1 with h1 | h1
  · exact T.once hj hk h1 h2
  · exact T.once hj hk h1 h2.symm
/-- What lies behind the next run lies behind this one. -/
theorem TreeR.side_sub {w : Int} {k x y z : Nat} (hk : k < rs.length) (hne : (k : Int) ≠ w) (hw : w = -1 ∨ ∃ j p, j < rs.length ∧ w = (j : Nat) ∧ Inc rs j p x) (h : Inc rs k x y) (hz : Rch rs k y z) : Rch rs w x z := by
  rcases hw with rfl | ⟨j, p, hj, rfl, hi⟩
  · exact (Rch.step .base hk hne h).trans hz.weak
  · rcases hz.other' hi with h1 | h1
    · exact (Rch.step .base hk hne h).trans h1
    · exact absurd h1.2.symm (T.apart hk h)
/-- One run alone leads from a spot to another one. -/
theorem TreeR.side_one {k1 k2 x y1 y2 z : Nat} (hk1 : k1 < rs.length) (hk2 : k2 < rs.length) (h1 : Inc rs k1 x y1) (h2 : Inc rs k2 x y2) (hz1 : Rch rs k1 y1 z) (hz2 : Rch rs k2 y2 z) : k1 = k2 := by
  refine Decidable.byContradiction fun hne => ?_
  rcases hz1.other' h2 with h | h
  · exact T.apart hk2 h2 ((Rch.step .base hk1 (by omega) h1).trans (h.trans hz2.symm))
  · exact T.apart hk1 h1 h.1.symm
theorem TreeR.side_some {w : Int} {x z : Nat} (h : Rch rs w x z) : x = z ∨ ∃ k y, k < rs.length ∧ (k : Int) ≠ w ∧ Inc rs k x y ∧ Rch rs k y z := by
  have key : ∀ {u z k0 : Nat}, (x = u ∨ ∃ k y, k < rs.length ∧ (k : Int) ≠ w ∧ Inc rs k x y ∧ Rch rs k y u) → k0 < rs.length → (k0 : Int) ≠ w → Inc rs k0 u z → x = z ∨ ∃ k y, k < rs.length ∧ (k : Int) ≠ w ∧ Inc rs k x y ∧ Rch rs k y z := by
    intro u z k0 ih hk0 hw0 hi
    rcases ih with rfl | ⟨k, y, hk, hw, hxy, hu⟩
    · exact .inr ⟨k0, z, hk0, hw0, hi, .base⟩
    · by_cases he : k0 = k
      · subst he
        have h3 : (u = x ∧ z = y) ∨ (u = y ∧ z = x) := by
          rcases hi with h1 | h1 <;> rcases hxy with h2 | h2 <;> rw [h1] at h2 <;> injection h2 with e1 e2 <;> simp_all
        rcases h3 with ⟨rfl, rfl⟩ | ⟨rfl, rfl⟩
        · exact absurd hu.symm (T.apart hk0 hxy)
        · exact .inl rfl
      · exact .inr ⟨k, y, hk, hw, hxy, hu.step hk0 (by omega) hi⟩
  induction h with
  | base => exact .inl rfl
  | fwd _ hk hw hr ih => exact key ih hk hw (.inl hr)
  | bwd _ hk hw hr ih => exact key ih hk hw (.inr hr)
theorem TreeR.inc_lt {k x y : Nat} (hk : k < rs.length) (h : Inc rs k x y) : x < n ∧ y < n := by
  have h1 := T.lt k hk
  rcases h with h | h <;> rw [h] at h1
  · exact h1
  · exact ⟨h1.2, h1.1⟩
end
theorem countP_lt {p q : Nat → Bool} : ∀ {l : List Nat} {c : Nat}, c ∈ l → (∀ x, p x = true → q x = true) → p c = false → q c = true → l.countP p < l.countP q
  | [], _, hc, _, _, _ => by simp at hc
  | a :: l, c, hc, h, hp, hq => by
    simp only [List.countP_cons]
    have hle : l.countP p ≤ l.countP q := List.countP_mono_left fun x _ hx => h x hx
    rcases List.mem_cons.1 hc with rfl | hc
    · rw [hp, hq]; simp; omega
    · have ih := countP_lt hc h hp hq
      by_cases ha : p a = true
      · rw [if_pos ha, if_pos (h a ha)]; omega
      · rw [if_neg ha]; split <;> omega
open Classical in
/-- How many spots lie behind a run. -/
noncomputable def sideN (rs : List (Nat × Nat)) (n : Nat) (w : Int) (x : Nat) : Nat := (List.range n).countP fun z => decide (Rch rs w x z)
section
variable {rs : List (Nat × Nat)} {n : Nat} (T : TreeR rs n)
include T
theorem TreeR.side_less {w : Int} {k x y : Nat} (hk : k < rs.length) (hne : (k : Int) ≠ w) (hw : w = -1 ∨ ∃ j p, j < rs.length ∧ w = (j : Nat) ∧ Inc rs j p x) (h : Inc rs k x y) : sideN rs n k y < sideN rs n w x := by
  unfold sideN
  refine countP_lt (c := x) (by simpa using (T.inc_lt hk h).1) (fun z hz => ?_) ?_ ?_
  · simp only [decide_eq_true_eq] at hz ⊢
    exact T.side_sub hk hne hw h hz
  · simp only [decide_eq_false_iff_not]
    exact fun q => T.apart hk h q.symm
  · simp only [decide_eq_true_eq]
    exact .base
end
/-- The way from a spot to another one, and not back. -/
inductive WayP (rs : List (Nat × Nat)) : Int → Nat → List Nat → Nat → Prop
  | nil {w : Int} {x : Nat} : WayP rs w x [] x
  | cons {w : Int} {x y z k : Nat} {P : List Nat} : k < rs.length → (k : Int) ≠ w → Inc rs k x y → x ≠ z → Rch rs k y z → WayP rs k y P z → WayP rs w x (k :: P) z
theorem inc_det {rs : List (Nat × Nat)} {k x y y' : Nat} (h : Inc rs k x y) (h' : Inc rs k x y') : y = y' := by
  rcases h with h | h <;> rcases h' with h' | h' <;> rw [h] at h' <;> injection h' with e1 e2 <;> simp_all
theorem WayP.one {rs : List (Nat × Nat)} {n : Nat} (T : TreeR rs n) : ∀ {P P' : List Nat} {w w' : Int} {x z : Nat}, WayP rs w x P z → WayP rs w' x P' z → P = P'
  | [], [], _, _, _, _, _, _ => rfl
  | [], _ :: _, _, _, _, _, h, h' => by
    cases h
    cases h' with
    | cons _ _ _ hne _ _ => exact absurd rfl hne
  | _ :: _, [], _, _, _, _, h, h' => by
    cases h'
    cases h with
    | cons _ _ _ hne _ _ => exact absurd rfl hne
  | k :: P, k' :: P', _, _, x, z, h, h' => by
    cases h with
    | cons hk _ hi _ hr hP =>
      cases h' with
      | cons hk' _ hi' _ hr' hP' =>
        have hkk := T.side_one hk hk' hi hi' hr hr'
        subst hkk
        have hyy := inc_det hi hi'
        subst hyy
        rw [WayP.one T hP hP']
/-- There is a way. -/
theorem WayP.some {rs : List (Nat × Nat)} {n : Nat} (T : TreeR rs n) : ∀ (m : Nat) {w : Int} {x z : Nat}, sideN rs n w x ≤ m → (w = -1 ∨ ∃ j p, j < rs.length ∧ w = (j : Nat) ∧ Inc rs j p x) → Rch rs w x z → ∃ P, WayP rs w x P z
  | m, w, x, z, hm, hw, h => by
    rcases T.side_some h with rfl | ⟨k, y, hk, hne, hi, hr⟩
    · exact ⟨[], .nil⟩
    · by_cases hxz : x = z
      · subst hxz; exact ⟨[], .nil⟩
      · have hl := T.side_less hk hne hw hi
        match m, hm with
        | 0, hm => omega
        | m + 1, hm =>
          obtain ⟨P, hP⟩ := WayP.some T m (w := (k : Int)) (by omega) (.inr ⟨k, x, hk, rfl, hi⟩) hr
          exact ⟨k :: P, .cons hk hne hi hxz hr hP⟩
end Go.Proofs.YtehadoecnmfeoaaGreat
/- The runs of a way are those that part its ends; distances: plain laws. -/
namespace Go.Proofs.YtehadoecnmfeoaaGreat
set_option linter.unusedVariables false
set_option linter.unusedSimpArgs false
set_option linter.unusedSectionVars false
theorem WayP.mem {rs : List (Nat × Nat)} {n : Nat} (T : TreeR rs n) {w : Int} {x z : Nat} {P : List Nat} (h : WayP rs w x P z) : P.Nodup ∧ ∀ j, j < rs.length → (j ∈ P ↔ ¬ Rch rs j x z) := by
  induction h with
  | nil => exact ⟨List.nodup_nil, fun j _ => ⟨fun q => by simp at q, fun q => absurd .base q⟩⟩
  | @cons w x y z k P hk hne hi hxz hr hP ih =>
    obtain ⟨h1, h2⟩ := ih
    have hkP : k ∉ P := fun q => (h2 k hk).1 q hr
    refine ⟨List.nodup_cons.2 ⟨hkP, h1⟩, fun j hj => ?_⟩
    by_cases hjk : j = k
    · subst hjk
      exact ⟨fun _ q => T.apart hk hi (q.trans hr.symm), fun _ => List.mem_cons_self ..⟩
    · have hxy : Rch rs j x y := Rch.step .base hk (by omega) hi
      constructor
      · intro q
        rcases List.mem_cons.1 q with q | q
        · exact absurd q hjk
        · exact fun q' => (h2 j hj).1 q (hxy.symm.trans q')
      · intro q
        exact List.mem_cons_of_mem _ ((h2 j hj).2 fun q' => q (hxy.trans q'))
theorem WayP.lt {rs : List (Nat × Nat)} {w : Int} {x z : Nat} {P : List Nat} (h : WayP rs w x P z) : ∀ j ∈ P, j < rs.length := by
  induction h with
  | nil => intro j hj; simp at hj
  | cons hk _ _ _ _ _ ih =>
    intro j hj
    rcases List.mem_cons.1 hj with rfl | hj
    · exact hk
    · exact ih j hj
/-- A sum over the first numbers. -/
def sumN (f : Nat → Int) : Nat → Int
  | 0 => 0
  | k + 1 => sumN f k + f k
theorem sumN_congr {f g : Nat → Int} : ∀ {m : Nat}, (∀ k, k < m → f k = g k) → sumN f m = sumN g m
  | 0, _ => rfl
  | m + 1, h => by
    show sumN f m + f m = sumN g m + g m
    rw [sumN_congr fun k hk => h k (by omega), h m (by omega)]
theorem sumN_add (f g : Nat → Int) : ∀ m, sumN (fun k => f k + g k) m = sumN f m + sumN g m
  | 0 => rfl
  | m + 1 => by
    show sumN _ m + (f m + g m) = sumN f m + f m + (sumN g m + g m)
    rw [sumN_add f g m]; omega
theorem sumN_zero : ∀ m, sumN (fun _ => 0) m = 0
  | 0 => rfl
  | m + 1 => by show sumN _ m + 0 = 0; rw [sumN_zero m]; rfl
theorem sumN_one (c : Nat) (v : Int) : ∀ m, sumN (fun k => if k = c then v else 0) m = if c < m then v else 0
  | 0 => by simp [sumN]
  | m + 1 => by
    show sumN _ m + (if m = c then v else 0) = _
    rw [sumN_one c v m]
    by_cases h1 : c < m
    · rw [if_pos h1, if_neg (by omega), if_pos (by omega)]; omega
    · by_cases h2 : m = c
      · rw [if_neg h1, if_pos h2, if_pos (by omega)]; omega
      · rw [if_neg h1, if_neg h2, if_neg (by omega)]; omega
open Classical in
/-- The distance of two spots: the runs that part them. -/
noncomputable def distN (rs : List (Nat × Nat)) (f : Nat → Int) (x z : Nat) : Int := sumN (fun k => if Rch rs k x z then 0 else f k) rs.length
end Go.Proofs.YtehadoecnmfeoaaGreat
/- Spots joined, and the spot that is nearest to three: plain laws. -/
namespace Go.Proofs.YtehadoecnmfeoaaGreat
set_option linter.unusedVariables false
set_option linter.unusedSimpArgs false
set_option linter.unusedSectionVars false
theorem rch_edge {rs : List (Nat × Nat)} {j k a b z : Nat} (hk : k < rs.length) (hi : Inc rs k a b) (h : j ≠ k) : Rch rs j a z ↔ Rch rs j b z :=
  ⟨fun q => (Rch.step .base hk (by omega) hi.symm).trans q, fun q => (Rch.step .base hk (by omega) hi).trans q⟩
section
variable {rs : List (Nat × Nat)} {n : Nat} (T : TreeR rs n)
include T
/-- Each spot lies on one side of a run. -/
theorem TreeR.sides {k a b : Nat} (hk : k < rs.length) (hi : Inc rs k a b) {z : Nat} (hz : z < n) : Rch rs k a z ∨ Rch rs k b z := by
  have key : ∀ {u v j : Nat}, (Rch rs k a u ∨ Rch rs k b u) → j < rs.length → Inc rs j u v → Rch rs k a v ∨ Rch rs k b v := by
    intro u v j ih hj hju
    by_cases hjk : j = k
    · subst hjk
      have h3 : (u = a ∧ v = b) ∨ (u = b ∧ v = a) := by
        rcases hju with h1 | h1 <;> rcases hi with h2 | h2 <;> rw [h1] at h2 <;> injection h2 with e1 e2 <;> simp_all
      rcases h3 with ⟨_, rfl⟩ | ⟨_, rfl⟩
      · exact .inr .base
      · exact .inl .base
    · rcases ih with h | h
      · exact .inl (h.step hj (by omega) hju)
      · exact .inr (h.step hj (by omega) hju)
  have h := T.all' (T.inc_lt hk hi).1 hz
  induction h with
  | base => exact .inl .base
  | @fwd x y j hx hj _ hr ih => exact key (ih (by have := T.lt j hj; rw [hr] at this; exact this.1)) hj (.inl hr)
  | @bwd x y j hx hj _ hr ih => exact key (ih (by have := T.lt j hj; rw [hr] at this; exact this.2)) hj (.inr hr)
open Classical in
/-- The far end of a run is farther by its length. -/
theorem TreeR.dist_edge {k a b s : Nat} (hk : k < rs.length) (hi : Inc rs k a b) (f : Nat → Int) (h : Rch rs k a s) : distN rs f b s = distN rs f a s + f k := by
  have hn : ¬ Rch rs k b s := fun q => T.apart hk hi (h.trans q.symm)
  have e : distN rs f b s = sumN (fun j => (if Rch rs j a s then 0 else f j) + (if j = k then f k else 0)) rs.length := by
    unfold distN
    refine sumN_congr fun j hj => ?_
    by_cases hjk : j = k
    · subst hjk
      rw [if_neg hn, if_pos h, if_pos rfl]; omega
    · rw [if_neg hjk]
      by_cases hq : Rch rs j a s
      · rw [if_pos hq, if_pos ((rch_edge hk hi hjk).1 hq)]; rfl
      · rw [if_neg hq, if_neg (fun q => hq ((rch_edge hk hi hjk).2 q))]; omega
  rw [e, sumN_add, sumN_one, if_pos hk]
  unfold distN
  congr 1
open Classical in
/-- The length of the runs that part some of the spots. -/
noncomputable def joinN (rs : List (Nat × Nat)) (f : Nat → Int) (l : List Nat) : Int := sumN (fun k => if ∃ x ∈ l, ∃ y ∈ l, ¬ Rch rs k x y then f k else 0) rs.length
/-- The first run towards a spot has behind it all that a run on the way has. -/
theorem TreeR.first_run {s x y k k' y' : Nat} (hk : k < rs.length) (hk' : k' < rs.length) (hi : Inc rs k' s y') (hr : Rch rs k' y' x) (h1 : ¬ Rch rs k s x) (h2 : ¬ Rch rs k s y) : ¬ Rch rs k' s y := by
  by_cases he : k' = k
  · subst he; exact h2
  · intro q
    obtain ⟨a, b, hab⟩ : ∃ a b, rs.getD k (0, 0) = (a, b) := ⟨_, _, rfl⟩
    rcases q.other hab with q1 | q1
    · exact h2 q1
    · rcases hr.other hab with q2 | q2
      · exact h1 ((Rch.step .base hk' (by omega) hi).trans q2)
      · exact T.apart hk' hi (q1.1.trans q2.1.symm)
end
def dist3 (rs : List (Nat × Nat)) (d : Nat → Nat → Int) (s x y z : Nat) : Int := d s x + d s y + d s z
section
variable {rs : List (Nat × Nat)} {n : Nat} (T : TreeR rs n) {f : Nat → Int} (hf : ∀ k, k < rs.length → 1 ≤ f k)
include T hf
end
end Go.Proofs.YtehadoecnmfeoaaGreat
/- The list of what is reached, in order: each spot but the first has a neighbour before it; distances measured along it: plain laws. -/
namespace Go.Proofs.YtehadoecnmfeoaaGreat
set_option linter.unusedVariables false
set_option linter.unusedSimpArgs false
set_option linter.unusedSectionVars false
/-- Each but the first has a neighbour before it. -/
def ParL (rs : List (Nat × Nat)) (w : Int) (out : List Nat) : Prop := ∀ p, 0 < p → p < out.length → ∃ q k, q < p ∧ k < rs.length ∧ (k : Int) ≠ w ∧ Inc rs k (out.getD q 0) (out.getD p 0)
theorem snoc_getD {l : List Nat} {b i : Nat} (h : i < l.length) : (l ++ [b]).getD i 0 = l.getD i 0 := pre_getD (List.prefix_append _ _) h
theorem snoc_last {l : List Nat} {b : Nat} : (l ++ [b]).getD l.length 0 = b := by simp [List.getD_eq_getElem?_getD]
theorem ParL.stepA {rs : List (Nat × Nat)} {w : Int} {out : List Nat} (h : ParL rs w out) {i x k a b : Nat} (hi : i < out.length) (hx : out.getD i 0 = x) (hk : k < rs.length) (hr : Inc rs k a b) : ParL rs w (stepA w x out k a b) := by
  unfold Go.Proofs.YtehadoecnmfeoaaGreat.stepA
  split
  · rename_i h1
    obtain ⟨h1, rfl, h3⟩ := h1
    intro p hp hl
    by_cases hpl : p < out.length
    · obtain ⟨q, j, hq, hj, hw, hinc⟩ := h p hp hpl
      exact ⟨q, j, hq, hj, hw, by rw [snoc_getD (by omega), snoc_getD hpl]; exact hinc⟩
    · have hpe : p = out.length := by simp at hl; omega
      subst hpe
      exact ⟨i, k, hi, hk, h1, by rw [snoc_getD hi, snoc_last, hx]; exact hr⟩
  · exact h
theorem getD_inj {l : List Nat} (hd : l.Nodup) {p q : Nat} (hp : p < l.length) (hq : q < l.length) (h : l.getD p 0 = l.getD q 0) : p = q := by
  rw [List.getD_eq_getElem?_getD, List.getD_eq_getElem?_getD, List.getElem?_eq_getElem hp, List.getElem?_eq_getElem hq] at h
  simp only [Option.getD_some] at h
  have hpw := List.pairwise_iff_getElem.1 hd
  rcases Nat.lt_trichotomy p q with h1 | h1 | h1
  · exact absurd h (hpw p q hp hq h1)
  · exact h1
  · exact absurd h.symm (hpw q p hq hp h1)
/-- What stands before a spot in the list hangs together without the runs of that spot. -/
theorem ParL.before {rs : List (Nat × Nat)} {w : Int} {l : List Nat} (h : ParL rs w l) (hd : l.Nodup) {p k : Nat} (hp : p < l.length) {a : Nat} (hi : Inc rs k a (l.getD p 0)) : ∀ q, q < p → Rch rs k (l.getD 0 0) (l.getD q 0)
  | 0, _ => .base
  | q + 1, hq => by
    obtain ⟨r, j, hr, hj, _, hinc⟩ := h (q + 1) (by omega) (by omega)
    have ih := ParL.before h hd hp hi r (by omega)
    refine ih.step hj (fun e => ?_) hinc
    have e' : j = k := by omega
    subst e'
    have h3 : l.getD p 0 = l.getD r 0 ∨ l.getD p 0 = l.getD (q + 1) 0 := by
      rcases hinc with h1 | h1 <;> rcases hi with h2 | h2 <;> rw [h1] at h2 <;> injection h2 with e1 e2
      · exact .inr e2.symm
      · exact .inl e1.symm
      · exact .inl e2.symm
      · exact .inr e1.symm
    rcases h3 with h3 | h3
    · have := getD_inj hd hp (by omega) h3; omega
    · have := getD_inj hd hp (by omega) h3; omega
termination_by q => q
end Go.Proofs.YtehadoecnmfeoaaGreat
/- The wires through a run; copper: plain laws. -/
namespace Go.Proofs.YtehadoecnmfeoaaGreat
set_option linter.unusedVariables false
set_option linter.unusedSimpArgs false
set_option linter.unusedSectionVars false
section
variable {rs : List (Nat × Nat)} {n : Nat} (T : TreeR rs n)
include T
/-- Two spots are parted by a run exactly if one alone lies on its first spot's side. -/
theorem TreeR.part {k a b x y : Nat} (hk : k < rs.length) (hi : Inc rs k a b) (hx : x < n) (hy : y < n) : (Rch rs k a x ↔ Rch rs k a y) ↔ Rch rs k x y := by
  constructor
  · intro h
    rcases T.sides hk hi hx with h1 | h1 <;> rcases T.sides hk hi hy with h2 | h2
    · exact h1.symm.trans h2
    · exact h1.symm.trans (h.1 h1)
    · exact (h.2 h2).symm.trans h2
    · exact h1.symm.trans h2
  · intro h
    exact ⟨fun q => q.trans h, fun q => q.trans h.symm⟩
/-- The list of a side, as the program takes it. -/
theorem TreeR.side_list {k a b x y i : Nat} (hk : k < rs.length) (hi : Inc rs k a b) (hx : x < n) (hy : y < n) (hl : (stR rs k a i).length ≤ i) : (decide (x ∈ stR rs k a i) != decide (y ∈ stR rs k a i)) = true ↔ ¬ Rch rs k x y := by
  rw [← T.part hk hi hx hy, ← stR_all hl x, ← stR_all hl y]
  by_cases h1 : x ∈ stR rs k a i <;> by_cases h2 : y ∈ stR rs k a i <;> simp [h1, h2]
end
/-- The order of two sums does not matter. -/
theorem sumN_swap (g : Nat → Nat → Int) (m : Nat) : ∀ k, sumN (fun i => sumN (fun j => g i j) m) k = sumN (fun j => sumN (fun i => g i j) k) m
  | 0 => by
    show (0 : Int) = sumN (fun j => 0) m
    rw [sumN_zero]
  | k + 1 => by
    show sumN _ k + sumN (fun j => g k j) m = sumN (fun j => sumN (fun i => g i j) k + g k j) m
    rw [sumN_swap g m k, ← sumN_add]
theorem sumN_mul (f : Nat → Int) (c : Int) : ∀ m, sumN f m * c = sumN (fun k => f k * c) m
  | 0 => by simp [sumN]
  | m + 1 => by
    show (sumN f m + f m) * c = sumN _ m + f m * c
    rw [Int.add_mul, sumN_mul f c m]
open Classical in
/-- The copper of all wires is that of all runs. -/
theorem copper_runs (rs : List (Nat × Nat)) (f : Nat → Int) (m : Nat) (has : Nat → Bool) (size : Nat → Int) (u v : Nat → Nat) :
    sumN (fun i => if has i then distN rs f (u i) (v i) * size i else 0) m = sumN (fun k => sumN (fun i => if has i ∧ ¬ Rch rs k (u i) (v i) then size i else 0) m * f k) rs.length := by
  have e1 : ∀ i, (if has i = true then distN rs f (u i) (v i) * size i else 0) = sumN (fun k => (if has i = true ∧ ¬ Rch rs k (u i) (v i) then size i else 0) * f k) rs.length := by
    intro i
    by_cases hh : has i = true
    · rw [if_pos hh]
      unfold distN
      rw [sumN_mul]
      refine sumN_congr fun k _ => ?_
      by_cases hr : Rch rs k (u i) (v i)
      · rw [if_pos hr, if_neg (fun q => q.2 hr)]; simp
      · rw [if_neg hr, if_pos ⟨hh, hr⟩, Int.mul_comm]
    · rw [if_neg hh, sumN_congr (g := fun _ => 0) (fun k _ => by rw [if_neg (fun q => hh q.1)]; simp), sumN_zero]
  rw [sumN_congr fun i _ => e1 i, sumN_swap]
  refine sumN_congr fun k _ => ?_
  rw [sumN_mul]
end Go.Proofs.YtehadoecnmfeoaaGreat
/- The spots of a way; what a search over the runs of a spot finds: plain laws. -/
namespace Go.Proofs.YtehadoecnmfeoaaGreat
set_option linter.unusedVariables false
set_option linter.unusedSimpArgs false
set_option linter.unusedSectionVars false
/-- The other end of a run. -/
def farEnd (rs : List (Nat × Nat)) (k x : Nat) : Nat := if (rs.getD k (0, 0)).1 = x then (rs.getD k (0, 0)).2 else (rs.getD k (0, 0)).1
/-- The spots of a way. -/
def spotsW (rs : List (Nat × Nat)) : Nat → List Nat → List Nat
  | x, [] => [x]
  | x, k :: P => x :: spotsW rs (farEnd rs k x) P
theorem inc_far {rs : List (Nat × Nat)} {k x y : Nat} (h : Inc rs k x y) : farEnd rs k x = y := by
  unfold farEnd
  rcases h with h | h <;> rw [h] <;> simp only
  · simp
  · split
    · rename_i h1; exact h1.symm
    · rfl
theorem spotsW_first (rs : List (Nat × Nat)) (x : Nat) (P : List Nat) : (spotsW rs x P).getD 0 0 = x := by cases P <;> rfl
theorem WayP.last {rs : List (Nat × Nat)} {w : Int} {x z : Nat} {P : List Nat} (h : WayP rs w x P z) : (spotsW rs x P).getD P.length 0 = z := by
  induction h with
  | nil => rfl
  | cons _ _ hi _ _ _ ih =>
    simp only [spotsW, List.length_cons, inc_far hi]
    simpa [List.getD_eq_getElem?_getD] using ih
theorem WayP.step {rs : List (Nat × Nat)} {w : Int} {x z : Nat} {P : List Nat} (h : WayP rs w x P z) : ∀ t, t < P.length → P.getD t 0 < rs.length ∧ Inc rs (P.getD t 0) ((spotsW rs x P).getD t 0) ((spotsW rs x P).getD (t + 1) 0) := by
  induction h with
  | nil => intro t ht; simp at ht
  | @cons w x y z k P hk _ hi _ _ _ ih =>
    intro t ht
    simp only [spotsW, inc_far hi]
    match t, ht with
    | 0, _ =>
      refine ⟨hk, ?_⟩
      have h1 := spotsW_first rs y P
      simp only [List.getD_cons_zero, List.getD_cons_succ]
      rw [h1]; exact hi
    | t + 1, ht =>
      have := ih t (by simpa using ht)
      simpa using this
section
variable {rs : List (Nat × Nat)} {n : Nat} (T : TreeR rs n)
include T
end
/-- The program's list of what is reached has at most as many rounds as spots: it comes to its end. -/
theorem stR_ends {rs : List (Nat × Nat)} {w : Int} {s n : Nat} (hs : s < n) (hrs : ∀ k, k < rs.length → (rs.getD k (0, 0)).1 < n ∧ (rs.getD k (0, 0)).2 < n) : (stR rs w s n).length ≤ n := stR_len hs hrs n
end Go.Proofs.YtehadoecnmfeoaaGreat
/- What can be reached in a loom: the reference's marks: plain laws. -/
namespace Go.Proofs.YtehadoecnmfeoaaGreat
set_option linter.unusedVariables false
set_option linter.unusedSimpArgs false
set_option linter.unusedSectionVars false
def setM (m : List Bool) (a b : Nat) : List Bool := m.set a (m.getD a false || m.getD b false)
def stepM (m : List Bool) (r : Nat × Nat) : List Bool := setM (setM m r.1 r.2) r.2 r.1
def scanM (rs : List (Nat × Nat)) (m : List Bool) : Nat → List Bool
  | 0 => m
  | k + 1 => stepM (scanM rs m k) (rs.getD k (0, 0))
def passM (rs : List (Nat × Nat)) (n : Nat) : Nat → List Bool
  | 0 => (List.replicate n false).set 0 true
  | j + 1 => scanM rs (passM rs n j) rs.length
/-- More marks. -/
def LeM (m m' : List Bool) : Prop := m.length = m'.length ∧ ∀ y, m.getD y false = true → m'.getD y false = true
theorem LeM.refl (m : List Bool) : LeM m m := ⟨rfl, fun _ h => h⟩
theorem LeM.trans {a b c : List Bool} (h : LeM a b) (k : LeM b c) : LeM a c := ⟨h.1.trans k.1, fun y q => k.2 y (h.2 y q)⟩
theorem LeM.tail {a b : Bool} {l m : List Bool} (h : LeM (a :: l) (b :: m)) : LeM l m := ⟨by have := h.1; simp at this; exact this, fun y q => by have := h.2 (y + 1); simpa using this (by simpa using q)⟩
theorem LeM.count : ∀ {l m : List Bool}, LeM l m → l.count true ≤ m.count true ∧ (l.count true = m.count true → l = m)
  | [], [], _ => ⟨Nat.le_refl _, fun _ => rfl⟩
  | [], b :: m, h => by have := h.1; simp at this
  | a :: l, [], h => by have := h.1; simp at this
  | a :: l, b :: m, h => by
    obtain ⟨h1, h2⟩ := LeM.count h.tail
    have h0 := h.2 0
    simp at h0
    cases a <;> cases b
    · refine ⟨by simpa using h1, fun e => by rw [h2 (by simpa using e)]⟩
    · refine ⟨by simp; omega, fun e => ?_⟩
      simp at e
      omega
    · simp at h0
    · refine ⟨by simpa using h1, fun e => by rw [h2 (by simpa using e)]⟩
theorem LeM.antisymm {l m : List Bool} (h : LeM l m) (k : LeM m l) : l = m := h.count.2 (Nat.le_antisymm h.count.1 k.count.1)
theorem getD_set (m : List Bool) (a : Nat) (v : Bool) (y : Nat) : (m.set a v).getD y false = if a = y ∧ a < m.length then v else m.getD y false := by
  rw [List.getD_eq_getElem?_getD, List.getD_eq_getElem?_getD, List.getElem?_set]
  by_cases h : a = y
  · subst h
    by_cases h2 : a < m.length
    · simp [h2]
    · simp [h2]
  · simp [h]
theorem setM_le (m : List Bool) (a b : Nat) : LeM m (setM m a b) := by
  refine ⟨by simp [setM], fun y h => ?_⟩
  unfold setM
  rw [getD_set]
  split
  · rename_i h1
    rw [h1.1, h]; rfl
  · exact h
theorem stepM_le (m : List Bool) (r : Nat × Nat) : LeM m (stepM m r) := (setM_le ..).trans (setM_le ..)
theorem scanM_le (rs : List (Nat × Nat)) (m : List Bool) {j k : Nat} (h : j ≤ k) : LeM (scanM rs m j) (scanM rs m k) := by
  induction k with
  | zero => rw [show j = 0 by omega]; exact LeM.refl _
  | succ k ih =>
    rcases Nat.lt_or_ge j (k + 1) with h1 | h1
    · exact (ih (by omega)).trans (stepM_le ..)
    · rw [show j = k + 1 by omega]; exact LeM.refl _
theorem passM_le (rs : List (Nat × Nat)) (n : Nat) {i j : Nat} (h : i ≤ j) : LeM (passM rs n i) (passM rs n j) := by
  induction j with
  | zero => rw [show i = 0 by omega]; exact LeM.refl _
  | succ j ih =>
    rcases Nat.lt_or_ge i (j + 1) with h1 | h1
    · exact (ih (by omega)).trans (scanM_le rs (passM rs n j) (Nat.zero_le _))
    · rw [show i = j + 1 by omega]; exact LeM.refl _
theorem passM_len (rs : List (Nat × Nat)) (n j : Nat) : (passM rs n j).length = n := by
  rw [← (passM_le rs n (Nat.zero_le j)).1]
  simp [passM]
theorem scanM_len (rs : List (Nat × Nat)) (m : List Bool) (k : Nat) : (scanM rs m k).length = m.length := (scanM_le rs m (Nat.zero_le k)).1.symm
/-- A pass that marks nothing new: the marks are closed. -/
theorem scanM_closed {rs : List (Nat × Nat)} {m : List Bool} (h : scanM rs m rs.length = m) {k : Nat} (hk : k < rs.length) {a b : Nat} (hr : rs.getD k (0, 0) = (a, b)) (ha : a < m.length) (hb : b < m.length) :
    m.getD a false = m.getD b false := by
  have e1 : scanM rs m k = m := LeM.antisymm (by have := scanM_le rs m (show k ≤ rs.length by omega); rw [h] at this; exact this) (scanM_le rs m (Nat.zero_le k))
  have e2 : stepM m (a, b) = m := by
    refine LeM.antisymm ?_ (stepM_le ..)
    have h1 := scanM_le rs m (show k + 1 ≤ rs.length by omega)
    rw [h] at h1
    have h2 : scanM rs m (k + 1) = stepM (scanM rs m k) (rs.getD k (0, 0)) := rfl
    rw [h2, e1, hr] at h1
    exact h1
  have e3 : setM m a b = m := LeM.antisymm (by have h1 : LeM (setM m a b) (stepM m (a, b)) := setM_le ..; rw [e2] at h1; exact h1) (setM_le ..)
  have e4 : setM m b a = m := by
    have h1 : stepM m (a, b) = setM (setM m a b) b a := rfl
    rw [e2, e3] at h1
    exact h1.symm
  have f3 := congrArg (fun x => x.getD a false) e3
  have f4 := congrArg (fun x => x.getD b false) e4
  simp only [setM] at f3 f4
  rw [getD_set, if_pos ⟨rfl, ha⟩] at f3
  rw [getD_set, if_pos ⟨rfl, hb⟩] at f4
  cases h1 : m.getD a false <;> cases h2 : m.getD b false <;> rw [h1, h2] at f3 f4 <;> simp_all
section
variable {rs : List (Nat × Nat)} {n : Nat} (hn : 0 < n) (hrs : ∀ k, k < rs.length → (rs.getD k (0, 0)).1 < n ∧ (rs.getD k (0, 0)).2 < n)
include hn hrs
theorem passM_zero (j : Nat) : (passM rs n j).getD 0 false = true := by
  refine (passM_le rs n (Nat.zero_le j)).2 0 ?_
  show ((List.replicate n false).set 0 true).getD 0 false = true
  rw [getD_set, if_pos ⟨rfl, by simpa using hn⟩]
theorem setM_rch {m : List Bool} (h : ∀ y, m.getD y false = true → Rch rs (-1) 0 y) {k a b : Nat} (hk : k < rs.length) (hr : rs.getD k (0, 0) = (a, b) ∨ rs.getD k (0, 0) = (b, a)) : ∀ y, (setM m a b).getD y false = true → Rch rs (-1) 0 y := by
  intro y hy
  unfold setM at hy
  rw [getD_set] at hy
  split at hy
  · rename_i h1
    rw [Bool.or_eq_true] at hy
    rcases hy with h2 | h2
    · exact h1.1 ▸ h a h2
    · rw [← h1.1]
      rcases hr with h3 | h3
      · exact .bwd (h b h2) hk (by omega) h3
      · exact .fwd (h b h2) hk (by omega) h3
  · exact h y hy
theorem scanM_rch {m : List Bool} (h : ∀ y, m.getD y false = true → Rch rs (-1) 0 y) : ∀ k, k ≤ rs.length → ∀ y, (scanM rs m k).getD y false = true → Rch rs (-1) 0 y
  | 0, _, y, hy => h y hy
  | k + 1, hk, y, hy => by
    obtain ⟨a, b, hr⟩ : ∃ a b, rs.getD k (0, 0) = (a, b) := ⟨_, _, rfl⟩
    have hy' : (setM (setM (scanM rs m k) (rs.getD k (0, 0)).1 (rs.getD k (0, 0)).2) (rs.getD k (0, 0)).2 (rs.getD k (0, 0)).1).getD y false = true := hy
    rw [hr] at hy'
    exact setM_rch hn hrs (setM_rch hn hrs (scanM_rch h k (by omega)) (by omega) (.inl hr)) (by omega) (.inr hr) y hy'
theorem passM_rch : ∀ j y, (passM rs n j).getD y false = true → Rch rs (-1) 0 y
  | 0, y, hy => by
    have hy' : ((List.replicate n false).set 0 true).getD y false = true := hy
    rw [getD_set] at hy'
    split at hy'
    · rename_i h; rw [← h.1]; exact .base
    · rw [List.getD_eq_getElem?_getD, List.getElem?_replicate] at hy'
      split at hy' <;> simp at hy'
  | j + 1, y, hy => scanM_rch hn hrs (passM_rch j) _ (Nat.le_refl _) y hy
theorem passM_stops : ∃ j, j < n ∧ passM rs n (j + 1) = passM rs n j := by
  refine Decidable.byContradiction fun hne => ?_
  have key : ∀ j, j ≤ n → j + 1 ≤ (passM rs n j).count true := by
    intro j
    induction j with
    | zero =>
      intro _
      have h1 : true ∈ passM rs n 0 := by
        have h2 := passM_zero hn hrs 0
        rw [List.getD_eq_getElem?_getD, List.getElem?_eq_getElem (by rw [passM_len]; exact hn)] at h2
        simp only [Option.getD_some] at h2
        rw [← h2]
        exact List.getElem_mem _
      exact List.count_pos_iff.2 h1
    | succ j ih =>
      intro hj
      have h1 := ih (by omega)
      have h2 := (passM_le rs n (show j ≤ j + 1 by omega)).count
      rcases Nat.lt_or_eq_of_le h2.1 with h3 | h3
      · omega
      · exact absurd ⟨j, by omega, (h2.2 h3).symm⟩ hne
  have h1 := key n (Nat.le_refl _)
  have h2 : (passM rs n n).count true ≤ (passM rs n n).length := List.count_le_length
  rw [passM_len] at h2
  omega
/-- What is marked in the end is what can be reached. -/
theorem passM_all (y : Nat) : (passM rs n n).getD y false = true ↔ Rch rs (-1) 0 y := by
  refine ⟨passM_rch hn hrs n y, fun h => ?_⟩
  obtain ⟨j, hj, he⟩ := passM_stops hn hrs
  have hcl : ∀ {k : Nat}, k < rs.length → ∀ {a b : Nat}, rs.getD k (0, 0) = (a, b) → (passM rs n j).getD a false = (passM rs n j).getD b false := by
    intro k hk a b hr
    have h1 := hrs k hk
    rw [hr] at h1
    exact scanM_closed he hk hr (by rw [passM_len]; exact h1.1) (by rw [passM_len]; exact h1.2)
  refine (passM_le rs n (show j ≤ n by omega)).2 y ?_
  induction h with
  | base => exact passM_zero hn hrs j
  | fwd _ hk _ hr ih => rw [← hcl hk hr]; exact ih
  | bwd _ hk _ hr ih => rw [hcl hk hr]; exact ih
/-- The two ways to look whether the runs are a tree agree. -/
theorem tree_same {i : Nat} (hi : (stR rs (-1) 0 i).length ≤ i) : (stR rs (-1) 0 i).length = n ↔ ∀ y, y < n → (passM rs n n).getD y false = true := by
  rw [stR_full hn hrs hi]
  exact ⟨fun h y hy => (passM_all hn hrs y).2 (h y hy), fun h y hy => (passM_all hn hrs y).1 (h y hy)⟩
end
end Go.Proofs.YtehadoecnmfeoaaGreat

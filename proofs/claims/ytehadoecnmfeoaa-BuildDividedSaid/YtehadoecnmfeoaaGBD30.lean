/- Part 30 of this claim's texts: walks and plain laws. -/
import Derived.Test.YtehadoecnmfeoaaRows
import Derived.Test.YtehadoecnmfeoaaGBD14
import Derived.Test.YtehadoecnmfeoaaGBD17
import Derived.Test.YtehadoecnmfeoaaGBD29
import Derived.Test.YtehadoecnmfeoaaGBD22
import Derived.Deep.RegionHeld3
import Derived.Deep.DrawnRows
import Derived.Test.YtehadoecnmfeoaaGBD25
import Derived.Test.YtehadoecnmfeoaaGBD21
import Derived.Test.YtehadoecnmfeoaaGBD27
import Derived.Test.YtehadoecnmfeoaaGBD12
import Derived.Test.YtehadoecnmfeoaaGBD15
import Derived.Deep.DeepMust
import Derived.Test.YtehadoecnmfeoaaGBD19
import Derived.Test.YtehadoecnmfeoaaGBD11
import Derived.Test.YtehadoecnmfeoaaGBD20
import Derived.Test.YtehadoecnmfeoaaGBD3
/- Modules of wires that go together: plain laws. -/
namespace Go.Proofs.Ytehadoecnmfeoaa
set_option linter.unusedVariables false
set_option linter.unusedSimpArgs false
/-- Whether two formulas hold in the same buildable variants. -/
def tgB (m : Mo) (f g : List Int) : Bool := (allM m).all fun x => evF1 (vf x) f == evF1 (vf x) g
def sometB (m : Mo) (f : List Int) : Bool := (allM m).any fun x => evF1 (vf x) f
theorem imp_empty (m : Mo) (f g : List Int) : (impL m f g).isEmpty = (allM m).all fun x => !evF1 (vf x) f || evF1 (vf x) g := by
  unfold impL
  rw [satM_all]
  induction allM m with
  | nil => rfl
  | cons a t ih =>
    rw [List.filter_cons, List.all_cons, ← ih]
    cases evF1 (vf a) f <;> cases evF1 (vf a) g <;> simp
theorem imp_tg (m : Mo) (f g : List Int) : ((impL m f g).isEmpty && (impL m g f).isEmpty) = tgB m f g := by
  rw [imp_empty, imp_empty]
  unfold tgB
  induction allM m with
  | nil => rfl
  | cons a t ih =>
    rw [List.all_cons, List.all_cons, List.all_cons, ← ih]
    cases evF1 (vf a) f <;> cases evF1 (vf a) g <;> simp
theorem mee_some (m : Mo) (f : List Int) : (!(meeL m [f]).isEmpty) = sometB m f := by
  unfold meeL sometB
  rw [satM_all]
  induction allM m with
  | nil => rfl
  | cons a t ih =>
    rw [List.filter_cons, List.any_cons, ← ih]
    have h : allF (vf a) [f] = evF1 (vf a) f := by simp [allF]
    rw [h]
    cases evF1 (vf a) f <;> simp
def fmW (l : Lo) (w : Nat) : List Int := (l.ws.getD w Wi.o).form
/-- The module that a wire joins; below 0: none. -/
def fndD (l : Lo) (D : List Md) (w : Nat) : Int := idxI (fun d => tgB l.m d.f (fmW l w)) D
def putD (D : List Md) (k w : Nat) : List Md := D.set k ⟨(D.getD k Md.o).f, (D.getD k Md.o).ws ++ [(w : Int)]⟩
def divS (l : Lo) (D : List Md) (w : Nat) : List Md := if sometB l.m (fmW l w) = true then (if 0 ≤ fndD l D w then putD D (fndD l D w).toNat w else D ++ [⟨fmW l w, [(w : Int)]⟩]) else D
def divN (l : Lo) : Nat → List Md
  | 0 => []
  | n + 1 => divS l (divN l n) n
def divL (l : Lo) : List Md := if l.err = 0 then divN l l.ws.length else []
structure DivI (l : Lo) (n : Nat) (D : List Md) : Prop where
  len : D.length ≤ n
  at_ : ∀ i, i < D.length → ∃ (w0 : Nat) (t : List Int), (D.getD i Md.o).ws = (w0 : Int) :: t ∧ w0 < n ∧ (D.getD i Md.o).f = fmW l w0 ∧ t.length < n
theorem DivI.zero (l : Lo) : DivI l 0 [] := ⟨Nat.le_refl _, fun i hi => absurd hi (by simp)⟩
theorem getD_snoc {α : Type} (L : List α) (a z : α) (i : Nat) : (L ++ [a]).getD i z = if i < L.length then L.getD i z else if i = L.length then a else z := by
  rcases Nat.lt_trichotomy i L.length with h | h | h
  · rw [if_pos h, List.getD_eq_getElem?_getD, List.getElem?_append_left h, List.getD_eq_getElem?_getD]
  · subst h
    rw [if_neg (Nat.lt_irrefl _), if_pos rfl, List.getD_eq_getElem?_getD, List.getElem?_append_right (Nat.le_refl _)]
    simp
  · rw [if_neg (by omega), if_neg (by omega), List.getD_eq_getElem?_getD, List.getElem?_eq_none (by simp; omega)]
    rfl
theorem getD_set9 {α : Type} (L : List α) (a z : α) {k : Nat} (hk : k < L.length) (i : Nat) : (L.set k a).getD i z = if i = k then a else L.getD i z := by
  by_cases h : i = k
  · subst h
    rw [if_pos rfl, List.getD_eq_getElem?_getD, List.getElem?_set_self hk]
    rfl
  · rw [if_neg h, List.getD_eq_getElem?_getD, List.getElem?_set_ne (fun q => h q.symm), List.getD_eq_getElem?_getD]
theorem fndD_lt {l : Lo} {D : List Md} {w : Nat} (h : 0 ≤ fndD l D w) : (fndD l D w).toNat < D.length := by
  have h1 : ∀ (L : List Md) (p : Md → Bool), 0 ≤ idxI p L → idxI p L < (L.length : Int) := by
    intro L p
    induction L with
    | nil => intro h; exact absurd h (by simp [idxI])
    | cons a t ih =>
      intro h
      unfold idxI at h ⊢
      rw [List.length_cons]
      split
      · omega
      · rename_i h2
        rw [if_neg h2] at h
        split at h
        · omega
        · rename_i h3
          rw [if_neg h3]
          have := ih (by omega)
          omega
  have := h1 D _ h
  unfold fndD at h this ⊢
  omega
theorem DivI.step {l : Lo} {n : Nat} {D : List Md} (h : DivI l n D) : DivI l (n + 1) (divS l D n) := by
  unfold divS
  split
  · split
    · rename_i h2
      have hk := fndD_lt h2
      obtain ⟨k, hke⟩ : ∃ k, (fndD l D n).toNat = k := ⟨_, rfl⟩
      rw [hke] at hk ⊢
      unfold putD
      refine ⟨by rw [List.length_set]; have := h.len; omega, fun i hi => ?_⟩
      rw [List.length_set] at hi
      rw [getD_set9 D _ _ hk]
      obtain ⟨w0, t, h3, h4, h5, h6⟩ := h.at_ i hi
      by_cases e : i = k
      · subst e
        rw [if_pos rfl]
        refine ⟨w0, t ++ [(n : Int)], ?_, by omega, h5, by rw [List.length_append, List.length_singleton]; omega⟩
        show (D.getD i Md.o).ws ++ [(n : Int)] = _
        rw [h3]
        rfl
      · rw [if_neg e]
        exact ⟨w0, t, h3, by omega, h5, by omega⟩
    · refine ⟨by rw [List.length_append, List.length_singleton]; have := h.len; omega, fun i hi => ?_⟩
      rw [getD_snoc]
      by_cases e : i < D.length
      · rw [if_pos e]
        obtain ⟨w0, t, h3, h4, h5, h6⟩ := h.at_ i e
        exact ⟨w0, t, h3, by omega, h5, by omega⟩
      · rw [List.length_append, List.length_singleton] at hi
        rw [if_neg e, if_pos (by omega)]
        exact ⟨n, [], rfl, by omega, rfl, by simp⟩
  · refine ⟨Nat.le_succ_of_le h.len, fun i hi => ?_⟩
    obtain ⟨w0, t, h3, h4, h5, h6⟩ := h.at_ i hi
    exact ⟨w0, t, h3, by omega, h5, by omega⟩
theorem divN_i (l : Lo) : ∀ n, DivI l n (divN l n)
  | 0 => DivI.zero l
  | n + 1 => (divN_i l n).step
end Go.Proofs.Ytehadoecnmfeoaa
/- Whether a loom is larger than a statement looks at: walk. -/
namespace Go.Proofs.Ytehadoecnmfeoaa
open Go.RowKit
set_option linter.unusedVariables false
set_option linter.unusedSimpArgs false
def farN (l : Lo) : Bool := decide (10 < l.m.opts.length) || decide (10 < l.m.rules.length) || decide (12 < l.ss.length) || decide (12 < l.us.length) || decide (10 < l.ps.length) || decide (12 < l.ws.length)
def farW (x : Wi) : Bool := decide (100 < x.name.size) || decide (40 < x.form.length)
/-- Whether a loom is larger than a statement looks at. -/
def farB (l : Lo) : Bool := farN l || (l.m.rules.any fun f => decide (40 < f.length)) || (l.m.opts.any fun s => decide (100 < s.size)) || (l.ps.any fun p => decide (100 < p.name.size)) || l.ws.any farW
end Go.Proofs.Ytehadoecnmfeoaa
/- The elder checks of spots and pins: walks. -/
namespace Go.Proofs.Ytehadoecnmfeoaa
open Go.RowKit
set_option linter.unusedVariables false
set_option linter.unusedSimpArgs false
end Go.Proofs.Ytehadoecnmfeoaa
/- The elder checks of spots and pins: walks. -/
namespace Go.Proofs.Ytehadoecnmfeoaa
open Go.RowKit
set_option linter.unusedVariables false
set_option linter.unusedSimpArgs false
end Go.Proofs.Ytehadoecnmfeoaa
/- The elder checks of spots and pins: walks. -/
namespace Go.Proofs.Ytehadoecnmfeoaa
open Go.RowKit
set_option linter.unusedVariables false
set_option linter.unusedSimpArgs false
end Go.Proofs.Ytehadoecnmfeoaa
/- The nearest spot to some: the first of the least sum: plain. -/
namespace Go.Proofs.Ytehadoecnmfeoaa
set_option linter.unusedVariables false
set_option linter.unusedSimpArgs false
set_option linter.unusedSectionVars false
/-- The first of the first m + 1 numbers with the least value, and that value. -/
def bestN (f : Nat → Int) : Nat → Nat × Int
  | 0 => (0, f 0)
  | m + 1 => if f (m + 1) < (bestN f m).2 then (m + 1, f (m + 1)) else bestN f m
/-- The sum of the distances from a spot to given ones. -/
noncomputable def sumD (l : Lo) (s : Nat) (ts : List Nat) : Int := (ts.map fun t => distN l.rs (runLen l) s t).sum
/-- What Splice answers of a valid loom. -/
noncomputable def spliceN (l : Lo) (ts : List Nat) : Nat × Int := bestN (fun s => sumD l s ts) (l.ss.length - 1)
end Go.Proofs.Ytehadoecnmfeoaa
/- The runs that join spots, as both programs find them: plain. -/
namespace Go.Proofs.Ytehadoecnmfeoaa
set_option linter.unusedVariables false
set_option linter.unusedSimpArgs false
set_option linter.unusedSectionVars false
section
variable {l : Lo} (h : LoOk l)
include h
/-- Some of the spots lie on the first side of a run and some do not: the run parts two of them. -/
theorem LoOk.both {k : Nat} (hk : k < l.us.length) {ts : List Nat} (ht : ∀ t ∈ ts, t < l.ss.length) :
    ((∃ x ∈ ts, Rch l.rs k (l.rs.getD k (0, 0)).1 x) ∧ ∃ y ∈ ts, ¬ Rch l.rs k (l.rs.getD k (0, 0)).1 y) ↔ ∃ x ∈ ts, ∃ y ∈ ts, ¬ Rch l.rs k x y := by
  have hkl : k < l.rs.length := by rw [rs_len]; exact hk
  obtain ⟨a, b, hab⟩ : ∃ a b, l.rs.getD k (0, 0) = (a, b) := ⟨_, _, rfl⟩
  rw [hab]
  simp only
  constructor
  · rintro ⟨⟨x, hx, h1⟩, y, hy, h2⟩
    exact ⟨x, hx, y, hy, fun q => h2 (h1.trans q)⟩
  · rintro ⟨x, hx, y, hy, hn⟩
    have hp := h.tree.part hkl (.inl hab) (ht x hx) (ht y hy)
    by_cases h1 : Rch l.rs k a x
    · exact ⟨⟨x, hx, h1⟩, y, hy, fun q => hn (h1.symm.trans q)⟩
    · by_cases h2 : Rch l.rs k a y
      · exact ⟨⟨y, hy, h2⟩, x, hx, h1⟩
      · exact absurd (hp.1 ⟨fun q => absurd q h1, fun q => absurd q h2⟩) hn
open Classical in
/-- One round of Joined. -/
theorem LoOk.join_step {k : Nat} (hk : k < l.us.length) {ts : List Nat} (ht : ∀ t ∈ ts, t < l.ss.length) (c : Bool)
    (hc : c = true ↔ ((∃ x ∈ ts, Rch l.rs k (l.rs.getD k (0, 0)).1 x) ∧ ∃ y ∈ ts, ¬ Rch l.rs k (l.rs.getD k (0, 0)).1 y)) :
    (if c = true then runLen l k else 0) = if ∃ x ∈ ts, ∃ y ∈ ts, ¬ Rch l.rs k x y then runLen l k else 0 := by
  by_cases hq : ∃ x ∈ ts, ∃ y ∈ ts, ¬ Rch l.rs k x y
  · rw [if_pos hq, if_pos (hc.2 ((h.both hk ht).2 hq))]
  · rw [if_neg hq, if_neg (fun q => hq ((h.both hk ht).1 (hc.1 q)))]
end
end Go.Proofs.Ytehadoecnmfeoaa
/- The ends of a wire, the wires through a run: walks. -/
namespace Go.Proofs.Ytehadoecnmfeoaa
open Go.RowKit
set_option linter.unusedVariables false
set_option linter.unusedSimpArgs false
theorem LoOk.pos {l : Lo} (h : LoOk l) : 0 < l.ss.length := by have := h.tree.len; omega
end Go.Proofs.Ytehadoecnmfeoaa
/- The elder look at the runs: walk. -/
namespace Go.Proofs.Ytehadoecnmfeoaa
open Go.RowKit
set_option linter.unusedVariables false
set_option linter.unusedSimpArgs false
/-- What is wrong with the runs. -/
def treE (l : Lo) : Int := if l.ss.length = 0 ∨ l.us.length + 1 ≠ l.ss.length then 61 else if l.us.all (Ru.ok l.ss) = false then 61 else if l.full = false then 61 else 0
/-- A row of marks. -/
def MkAt (w : World) (b : Nat) (m : List Bool) : Prop := w.heap[b]? = some (.cells (m.map Value.bool).toArray 4 (0, 0))
theorem MkAt.cell {w : World} {b k : Nat} {m : List Bool} (h : MkAt w b m) (hk : k < m.length) : w.cell? ⟨b, k, none⟩ = some (.bool (m.getD k false)) := by
  rw [cellOf h]
  simp [hk]
theorem MkAt.set {w wz : World} {b k : Nat} {m : List Bool} {x : Bool} (h : MkAt w b m) (hz : w.setCell ⟨b, k, none⟩ (.bool x) = wz) : MkAt wz b (m.set k x) := by
  subst hz
  unfold MkAt
  rw [setCellOf h, List.setIfInBounds_toArray, List.map_set]
theorem MkAt.to {w w' : World} {b : Nat} {m : List Bool} (h : MkAt w b m) (hb : Below w.heap.size w w') : MkAt w' b m := box_to h hb
end Go.Proofs.Ytehadoecnmfeoaa
/- The elder Check: walk. -/
namespace Go.Proofs.Ytehadoecnmfeoaa
open Go.RowKit
set_option linter.unusedVariables false
set_option linter.unusedSimpArgs false
end Go.Proofs.Ytehadoecnmfeoaa
/- The elder Check of modules: walk. -/
namespace Go.Proofs.Ytehadoecnmfeoaa
open Go.RowKit
set_option linter.unusedVariables false
set_option linter.unusedSimpArgs false
end Go.Proofs.Ytehadoecnmfeoaa
/- The first defect is a defect, and no other comes before it: plain laws. -/
namespace Go.Proofs.Ytehadoecnmfeoaa
set_option linter.unusedVariables false
set_option linter.unusedSimpArgs false
/-- The kind of defect that a wire has: by whether it belongs to the variant, and how often it is made. -/
def kndB (is : Bool) (n : Nat) : Nat := if is = true ∧ n = 0 then 1 else if is = false ∧ 0 < n then 2 else if 1 < n then 3 else 0
theorem kndB_def (is : Bool) (n : Nat) {k : Nat} (h1 : 1 ≤ k) (h3 : k ≤ 3) : defB k is n = true ↔ kndB is n = k := by
  rcases (by omega : k = 1 ∨ k = 2 ∨ k = 3) with rfl | rfl | rfl <;> cases is <;> rcases (by omega : n = 0 ∨ n = 1 ∨ 1 < n) with rfl | rfl | h
  all_goals first
    | decide
    | (have a1 : ¬ n = 0 := by omega
       have a2 : 0 < n := by omega
       simp [defB, kndB, a1, a2, h])
def kndN (l : Lo) (ms : List Md) (x : List Bool) (w : Nat) : Nat := kndB (evF1 (vf x) (l.ws.getD w Wi.o).form) (manyN ms x w)
theorem audK_some {m : Mo} {f : List Int} {fs : List (List Int)} : ∀ {n : Nat} {r : Nat × List Bool}, audK m f fs n = some r → 1 ≤ r.1 ∧ r.1 ≤ n ∧ frstV m f fs r.1 = some r.2
  | 0, _, h => by cases h
  | n + 1, r, h => by
    cases h1 : audK m f fs n with
    | some r1 =>
      rw [audK_stays h1 (Nat.le_succ n)] at h
      injection h with h
      subst h
      have := audK_some h1
      exact ⟨this.1, Nat.le_succ_of_le this.2.1, this.2.2⟩
    | none =>
      rw [audK_next h1] at h
      cases h2 : frstV m f fs (n + 1) with
      | none => rw [h2] at h; cases h
      | some x =>
        rw [h2] at h
        injection h with h
        subst h
        exact ⟨Nat.succ_le_succ (Nat.zero_le n), Nat.le_refl _, h2⟩
theorem audN_some {l : Lo} {ms : List Md} : ∀ {n : Nat} {r : Nat × Nat × List Bool}, audN l ms n = some r → r.1 < n ∧ audK l.m (l.ws.getD r.1 Wi.o).form (withL ms r.1) 3 = some r.2
  | 0, _, h => by cases h
  | n + 1, r, h => by
    cases h1 : audN l ms n with
    | some r1 =>
      rw [audN_stays h1 (Nat.le_succ n)] at h
      injection h with h
      subst h
      have := audN_some h1
      exact ⟨Nat.lt_succ_of_lt this.1, this.2⟩
    | none =>
      rw [audN_next h1] at h
      cases h2 : audK l.m (l.ws.getD n Wi.o).form (withL ms n) 3 with
      | none => rw [h2] at h; cases h
      | some x =>
        rw [h2] at h
        injection h with h
        subst h
        exact ⟨Nat.lt_succ_self n, h2⟩
/-- What is found is a defect of a buildable variant. -/
theorem audA_is {l : Lo} {ms : List Md} (he : bldE l ms = 0) {r : Nat × Nat × List Bool} (h : audA l ms = some r) : r.1 < l.ws.length ∧ r.2.2 ∈ allM l.m ∧ kndN l ms r.2.2 r.1 = r.2.1 ∧ 1 ≤ r.2.1 ∧ r.2.1 ≤ 3 := by
  unfold audA at h
  rw [if_pos he] at h
  obtain ⟨h1, h2⟩ := audN_some h
  obtain ⟨h3, h4, h5⟩ := audK_some h2
  unfold frstV at h5
  have h6 := List.find?_some h5
  have hw : ∀ d ∈ ms, wiresB l.ws.length d.ws = true := fun d hd => by
    have := (bldE_ok he).ok d hd
    unfold rightB at this
    exact (Bool.and_eq_true _ _ ▸ this).1
  refine ⟨h1, List.mem_of_find?_eq_some h5, ?_, h3, h4⟩
  unfold kndN
  rw [many_cnt hw]
  exact (kndB_def _ _ h3 h4).1 h6
end Go.Proofs.Ytehadoecnmfeoaa
/- What is picked, and how often a wire is in it (the elder): walks. -/
namespace Go.Proofs.Ytehadoecnmfeoaa
open Go.RowKit
set_option linter.unusedVariables false
set_option linter.unusedSimpArgs false
def occK (ws : List Int) (w k : Nat) : Nat := ((ws.drop k).filter fun x => x == (w : Int)).length
end Go.Proofs.Ytehadoecnmfeoaa
/- The first variant that has a wire twice: walk. -/
namespace Go.Proofs.Ytehadoecnmfeoaa
open Go.RowKit
set_option linter.unusedVariables false
set_option linter.unusedSimpArgs false
theorem forms_three {w : World} {b B : Nat} {fv gv hv : Value} {f g h : List Int} {t : Nat} (hb : w.heap[b]? = some (.cells #[fv, gv, hv] t (0, 0))) (hB : b < B) (h1 : Ints w B fv f) (h2 : Ints w B gv g) (h3 : Ints w B hv h) : Forms w B (.slice (some ⟨b, 0, none⟩) 3 3) [f, g, h] :=
  ⟨fun i => if i = 0 then fv else if i = 1 then gv else hv, ⟨_, b, 0, 3, rfl, Nat.le_refl _, .inl ⟨rfl, hB⟩, fun i j hi hj => by
    simp at hi
    obtain rfl : j = 0 := by omega
    rcases (by omega : i = 0 ∨ i = 1 ∨ i = 2) with rfl | rfl | rfl
    · exact cellOf hb 0
    · exact cellOf hb 1
    · exact cellOf hb 2⟩, fun i hi => by
    simp at hi
    rcases (by omega : i = 0 ∨ i = 1 ∨ i = 2) with rfl | rfl | rfl
    · exact h1
    · exact h2
    · exact h3⟩
theorem sized_three {f g h : List Int} (h1 : f.length ≤ maxLen) (h2 : g.length ≤ maxLen) (h3 : h.length ≤ maxLen) : Sized [f, g, h] := ⟨by unfold maxLen; simp, fun x hx => by simp at hx; rcases hx with rfl | rfl | rfl <;> assumption⟩
theorem dub_head (m : Mo) (f g h : List Int) : (meeL m [f, g, h]).head? = (allM m).find? fun x => evF1 (vf x) f && (evF1 (vf x) g && evF1 (vf x) h) := by
  rw [mee_head]
  congr 1
  funext x
  simp [allF]
set_option maxRecDepth 100000 in
set_option maxHeartbeats 4000000 in
theorem double_any (k0 : Nat) (fs : List (List Int)) (Aw : Option Addr) (qw : Nat) (A0 A1 A2 A3 A4 A5 : Option Addr) (q0 q1 q2 q3 q4 q5 : Nat) (l : Lo) (w : World) (hs : SizedL l) (h : LoA w w.heap.size A0 A1 A2 A3 A4 A5 q0 q1 q2 q3 q4 q5 l) (ok : LoOk l) (hk : k0 < l.ws.length) (hf : Forms w w.heap.size (.slice Aw fs.length qw) fs) (h60 : fs.length ≤ 60) (hv : ∀ f ∈ fs, validF l.m.opts.length f = true) (hN : l.m.opts.length ≤ 12) :
    Calls Try.prog 40 #[.agg #[.slice A0 l.m.opts.length q0, .slice A1 l.m.rules.length q1, .slice A2 l.ss.length q2, .slice A3 l.us.length q3, .slice A4 l.ps.length q4, .slice A5 l.ws.length q5], .int .i64 k0, .slice Aw fs.length qw] w (LokP (frstV l.m (l.ws.getD k0 Wi.o).form fs 3) w) := by
  obtain ⟨bw, offw, x, Af, qf, HX, hA, hbw, hq5, HFO, e0, e1, e2, e3, e4, e5, e6⟩ := h.wi hk
  subst hA
  rw [HX.out]
  have hxv : validF l.m.opts.length x.form = true := by
    have h1 := (LoOk.wi ok hk).2
    rw [HX.out] at h1
    exact h1
  have hxl : x.form.length ≤ maxLen := (hs.wn x (by rw [← HX.out]; exact getD_mem7 hk)).2
  obtain ⟨res, hres⟩ : ∃ r, frstV l.m x.form fs 3 = r := ⟨_, rfl⟩
  rw [hres]
  have HRES := hide hres
  have H := hide h
  have HS := hide hs
  have HF := hide hf
  have HV := hide hv
  have HXV := hide hxv
  have OK := hide ok
  have E6 := hide e6
  have ii : (k0 : Int) < (l.ws.length : Int) := by omega
  have ik0 : (0 : Int) ≤ (k0 : Int) := by omega
  have iq : (l.ws.length : Int) ≤ (q5 : Int) := by omega
  clear h hs hf hv hxv ok hres e0 e1 e2 e3 e4 e5 e6 hq5
  go_enter Try.func40, Try.ntmps40
  go_upto_region 2 with (fail)
  generalize hw0 : World.alloc _ _ = w0
  obtain ⟨hb0, hb1, hB0, hs0⟩ := alloc2 hw0
  have HL0 : Hid (LoBox w0 w.heap.size A0 A1 A2 A3 A4 (some ⟨bw, offw, none⟩) q0 q1 q2 q3 q4 q5 l) := hb0
  have HE0 : Hid (EarAt w0 (w.heap.size + 1) l.m.opts.length (dubV l.m x.form fs 0 0)) := by
    rw [dubV_zero]
    exact ⟨_, hb1, rfl, fun x hx => by cases hx⟩
  have HB0 := hide hB0
  clear hw0 hb0 hb1 hB0 hs0
  go_wp2_with fail
  go_loopw [8, 9, 11, 12, 13, 14, 17] (fun _ _ _ _ _ _ i wr => ∃ k : Nat, i = .int .i64 k ∧ k ≤ fs.length ∧ Hid (Below w.heap.size w wr) ∧ Hid (LoBox wr w.heap.size A0 A1 A2 A3 A4 (some ⟨bw, offw, none⟩) q0 q1 q2 q3 q4 q5 l) ∧ Hid (EarAt wr (w.heap.size + 1) l.m.opts.length (dubV l.m x.form fs k 0))) (fun _ _ _ _ _ _ i _ => fs.length - (intOf i).toNat)
  case atStart => exact ⟨0, rfl, Nat.zero_le _, HB0.out, HL0.out, HE0.out⟩
  case round =>
    obtain ⟨k, rfl, hk2, HB, HL, HE⟩ := hrel
    by_cases hkl : k < fs.length
    · obtain ⟨bf, off, f, Ag, qg, HFK, hA2, hbf, hqf, HG, ef⟩ := HF.out.at7 hkl
      subst hA2
      have hfv : validF l.m.opts.length f = true := by rw [← HFK.out]; exact HV.out _ (getD_mem7 hkl)
      have hfl : f.length ≤ maxLen := by have := (validF_pos hfv).2; unfold maxLen; omega
      have z0 := (HB.out.cell (p := ⟨bf, off + k, none⟩) hbf).trans ef
      have lbf : bf < wr.heap.size := Nat.lt_of_lt_of_le hbf HB.out.size
      have i0 : (0 : Int) ≤ (k : Int) := by omega
      have i1 : (k : Int) < (fs.length : Int) := by omega
      have iqf : (fs.length : Int) ≤ (qw : Int) := by omega
      have ikq : (k : Int) ≤ (qw : Int) := by omega
      have HFV := hide hfv
      obtain ⟨wo, hwo⟩ : ∃ wo : World, wo = wr := ⟨_, rfl⟩
      subst hwo
      clear hqf ef hfv
      go_wp2_with fail
      clear z0 lbf
      go_loopw [11, 12, 13, 14, 26] (fun _ _ _ _ i wr => ∃ j : Nat, i = .int .i64 j ∧ j ≤ k ∧ Hid (Below w.heap.size w wr) ∧ Hid (LoBox wr w.heap.size A0 A1 A2 A3 A4 (some ⟨bw, offw, none⟩) q0 q1 q2 q3 q4 q5 l) ∧ Hid (EarAt wr (w.heap.size + 1) l.m.opts.length (dubV l.m x.form fs k j))) (fun _ _ _ _ i _ => k - (intOf i).toNat)
      case atStart => exact ⟨0, rfl, Nat.zero_le _, HB.out, HL.out, HE.out⟩
      case round =>
        clear HB HL HE
        obtain ⟨j, rfl, hj2, HB, HL, HE⟩ := hrel
        by_cases hjl : j < k
        · obtain ⟨bg, offg, g, Ah, qh, HGK, hA3, hbg, hqg, HG2, eg⟩ := HF.out.at7 (show j < fs.length by omega)
          injection hA3 with hA3
          injection hA3 with q1' q2'
          subst q1' q2'
          have hgv : validF l.m.opts.length g = true := by rw [← HGK.out]; exact HV.out _ (getD_mem7 (by omega))
          have hgl : g.length ≤ maxLen := by have := (validF_pos hgv).2; unfold maxLen; omega
          have z1 := (HB.out.cell (p := ⟨bf, off + j, none⟩) hbf).trans eg
          have lbf : bf < wr.heap.size := Nat.lt_of_lt_of_le hbf HB.out.size
          have j0 : (0 : Int) ≤ (j : Int) := by omega
          have j1 : (j : Int) < (k : Int) := by omega
          have hef : l.m.errF [x.form, f, g] = 0 := errF_all OK.out.m (fun y hy => by
            simp only [List.mem_cons, List.not_mem_nil, or_false] at hy
            rcases hy with h1 | h1 | h1
            · rw [h1]; exact HXV.out
            · rw [h1]; exact HFV.out
            · rw [h1]; exact hgv)
          obtain ⟨o, ho⟩ : ∃ o, (meeL l.m [x.form, f, g]).head? = o := ⟨_, rfl⟩
          have hoe : (!(meeL l.m [x.form, f, g]).isEmpty) = !o.isNone := by rw [empty_head, ho]
          have hstep : dubV l.m x.form fs k (j + 1) = soon (dubV l.m x.form fs k j) o := by rw [dubV_in hjl hkl, ← ho, dub_head, HFK.out, HGK.out]
          have hol : ∀ y, o = some y → y.length = l.m.opts.length := fun y hy => by
            rw [dub_head] at ho
            exact find_len (ho.trans hy)
          have HEF := hide hef
          have HO := hide ho
          have HOE := hide hoe
          have HST := hide hstep
          have HOL := hide hol
          clear hgv hqg eg hef ho hoe hstep hol
          go_upto_region 8 with (fail)
          clear z1 lbf
          have g6 := (HB.out.cell (p := ⟨bw, offw + k0 * 7 + 6, none⟩) hbw).trans E6.out
          have lbw : bw < wr.heap.size := Nat.lt_of_lt_of_le hbw HB.out.size
          have c0 := cellOf HL.out 0; have c1 := cellOf HL.out 1; have c2 := cellOf HL.out 2; have c3 := cellOf HL.out 3; have c4 := cellOf HL.out 4; have c5 := cellOf HL.out 5
          have lc := box_lt HL.out
          have HHr := hide (H.out.up HB.out)
          have HGr := hide (HG.out.up HB.out)
          have HG2r := hide (HG2.out.up HB.out)
          have HXr := hide (HFO.out.up HB.out)
          refine wp_region_held_drew (S := (fun w' => Below wr.heap.size wr w')) (by kernel_rfl) ?_ (fun hHeld => ?_)
          · try dsimp only
            exact (by repeat (first | exact Below.refl _ _ | assumption | refine Below.drew ?_ | refine Below.drewN ?_ _ | refine Below.allocT ?_ (Nat.le_refl _) _ | refine Below.setCell ?_ (by simp <;> omega) _ | refine Below.to ?_ (by assumption) (Nat.le_refl _)))
          refine zT 0 rfl ?_
          try simp only [zX]
          refine zT 1 rfl ?_
          try simp only [zX]
          refine zT 2 rfl ?_
          try simp only [zX]
          refine zT 3 rfl ?_
          try simp only [zX]
          refine zT 4 rfl ?_
          try simp only [zX]
          refine zT 5 rfl ?_
          try simp only [zX]
          refine zT 6 rfl ?_
          try simp only [zX]
          refine zT 7 rfl ?_
          try simp only [zX]
          refine zT 8 rfl ?_
          try simp only [zX]
          refine zT 9 rfl ?_
          try simp only [zX]
          refine wpAnyH_ready (rs := [10]) (by kernel_rfl) (by simp) ?_
          refine AllReadyH.cons rfl (fun K hK => ?_) AllReadyH.nil
          go_simp
          refine hK.out _ _ ?_ (fun hNext => ?_)
          · try dsimp only
            exact (by repeat (first | exact Below.refl _ _ | assumption | refine Below.drew ?_ | refine Below.drewN ?_ _ | refine Below.allocT ?_ (Nat.le_refl _) _ | refine Below.setCell ?_ (by simp <;> omega) _ | refine Below.to ?_ (by assumption) (Nat.le_refl _)))
          clear hK K hHeld
          have hHeld := hNext
          clear hNext
          (try dsimp only at hHeld)
          try simp only [zX]
          refine wpAnyH_ready (rs := [11]) (by kernel_rfl) (by simp) ?_
          refine AllReadyH.cons rfl (fun K hK => ?_) AllReadyH.nil
          go_simp
          ((go_at_call 31; refine (Meets_n l.m [x.form, f, g] _ _ _ _ HS.out.m (sized_three hxl hfl hgl) (HHr.out.up hHeld).m (forms_three (heap_new _ _ _ rfl) (by simp) (HXr.out.up hHeld) (HGr.out.up hHeld) (HG2r.out.up hHeld)) HEF.out hN (by simp)).mono ?_; rw [HO.out, HOE.out]; rintro e w2 ⟨v2, rfl, hop, hB2⟩))
          (try dsimp only)
          refine hK.out _ _ ?_ (fun hNext => ?_)
          · try dsimp only
            exact (by repeat (first | exact Below.refl _ _ | assumption | refine Below.drew ?_ | refine Below.drewN ?_ _ | refine Below.allocT ?_ (Nat.le_refl _) _ | refine Below.setCell ?_ (by simp <;> omega) _ | refine Below.to ?_ (by assumption) (Nat.le_refl _)))
          clear hK K hHeld
          have hHeld := hNext
          clear hNext
          (try dsimp only at hHeld)
          try simp only [zX]
          refine zT 12 rfl ?_
          try simp only [zX]
          refine zT 13 rfl ?_
          try simp only [zX]
          refine zT 14 rfl ?_
          try simp only [zX]
          refine zT 15 rfl ?_
          try simp only [zX]
          refine zT 16 rfl ?_
          try simp only [zX]
          refine zT 17 rfl ?_
          try simp only [zX]
          refine zT 18 rfl ?_
          try simp only [zX]
          refine wpAnyH_done (by kernel_rfl) ?_ _
          obtain ⟨Av, nv, qv, hv2, _⟩ := hop.form
          subst hv2
          have HOP := hide hop
          have HB2 := hide hHeld
          have HL2 := hide (HL.out.to hHeld)
          have HE2 := hide (HE.out.up hHeld)
          clear hHeld hop c0 c1 c2 c3 c4 c5 lc g6 lbw
          cases o with
          | none =>
            have hxe : dubV l.m x.form fs k (j + 1) = dubV l.m x.form fs k j := by
              rw [HST.out]
              cases dubV l.m x.form fs k j <;> rfl
            have HXE := hide hxe
            clear hxe
            go_wp2_with fail
            go_roundw
            case rel => exact ⟨j + 1, by go_num, by omega, Below.to HB.out HB2.out (Nat.le_refl _), HL2.out, by rw [HXE.out]; exact HE2.out⟩
            case measure => simp [intOf]; omega
          | some y =>
            go_wp2_with (go_at_call 87; refine (show_any (w.heap.size + 1) l.m.opts.length (dubV l.m x.form fs k j) (some y) _ w2 (by omega) HE2.out HOP.out HOL.out).mono ?_; rintro e w3 ⟨rfl, hE3, hg3⟩; have HE3 := hide hE3; have HG3 := hide hg3; clear hE3 hg3)
            go_roundw
            case rel => exact ⟨j + 1, by go_num, by omega, Below.grown (Below.to HB.out HB2.out (Nat.le_refl _)) HG3.out (Nat.le_trans HB.out.size HB2.out.size) (fun j hj => by injection hj with hj; omega), by
              obtain ⟨cv, hcv, _⟩ := HE2.out
              exact HL2.out.grown hcv (by decide) HG3.out, by rw [HST.out]; exact HE3.out⟩
            case measure => simp [intOf]; omega
        · have hje : j = k := by omega
          have j1 : ¬ (j : Int) < (k : Int) := by omega
          have HJE := hide hje
          clear hje
          go_wp2_with fail
          go_roundw
          case rel => exact ⟨k + 1, by go_num, by omega, HB.out, HL.out, by rw [← dubV_next]; have h1 := HE.out; rw [HJE.out] at h1; exact h1⟩
          case measure => simp [intOf]; omega
    · have hke : k = fs.length := by omega
      subst hke
      obtain ⟨cv, hcv, hop, _⟩ := HE.out
      rw [dubV_all, HRES.out] at hop
      have x0 := cellOf hcv 0
      have lx := box_lt hcv
      have HOP := hide hop
      clear hcv hop
      go_wp2_with fail
      go_ret
      exact ⟨_, rfl, HOP.out, HB.out⟩
end Go.Proofs.Ytehadoecnmfeoaa

/- Part 12 of this claim's texts: walks and plain laws. -/
import Derived.Test.YtehadoecnmfeoaaRows
import Derived.Test.YtehadoecnmfeoaaGBD10
import Derived.Test.YtehadoecnmfeoaaGBD11
import Derived.Laws.MakeOwn
/- Most: walk. -/
namespace Go.Proofs.Ytehadoecnmfeoaa
open Go.RowKit
open Go.Maps (Keyed)
set_option linter.unusedVariables false
set_option linter.unusedSimpArgs false
theorem Stk.push {B : Nat} {w w1 : World} {F : Fo} {A : Option Addr} {n cap m : Nat} {S : List Nat} {v1 : Value} {o : Obj} (h : Stk B w F (.slice A n cap) S) (hF : FoAt w F) (hown : w1.ownsRow B 3 1 v1 (S.length + 1) ((S.map fun (n : Nat) => Value.int .i64 n) ++ [.int .i64 (m : Nat)])) (hg : (w.alloc o).grownBy w1 (Value.slice A n cap).ownBlock)
    (hat : v1.ownBlock = (Value.slice A n cap).ownBlock ∨ v1.ownBlock = some (w.alloc o).heap.size) : Stk B w1 F v1 (S ++ [m]) ∧ Keeps (fun i => (Value.slice A n cap).ownBlock = some i) w w1 := by
  refine ⟨⟨?_, fun b hb hs => ?_⟩, Keeps.trans ((Keeps.refl _ w).alloc _) (Keeps.of_grown hg (fun k hk => hk)) (fun _ _ h => h)⟩
  · rw [List.length_append, List.length_singleton, List.map_append]; exact hown
  · rcases hat with e | e
    · exact h.2 b (by rw [← hb, e]) hs
    · rw [hb] at e
      injection e with e
      have := hF.slt hs
      simp at e
      omega
def Bols (w : World) (B : Nat) (v : Value) (l : List Bool) : Prop := Sl w B 1 v l.length (fun i _ => .bool (l.getD i false))
/-- A variant being made: the first choices, and then none. -/
def VarAt (w : World) (b N : Nat) (l : List Bool) : Prop := w.heap[b]? = some (.cells ((l ++ List.replicate (N - l.length) false).map Value.bool).toArray 4 (0, 0))
theorem VarAt.cell {w : World} {b N : Nat} {l : List Bool} (h : VarAt w b N l) (hl : l.length < N) : w.cell? ⟨b, l.length, none⟩ = some (.bool false) := by
  rw [cellOf h]
  simp only [List.getElem?_toArray, List.getElem?_map]
  rw [List.getElem?_append_right (Nat.le_refl _), Nat.sub_self, List.getElem?_replicate, if_pos (by omega)]
  rfl
theorem VarAt.set {w : World} {b N : Nat} {l : List Bool} (h : VarAt w b N l) (hl : l.length < N) (x : Bool) : VarAt (w.setCell ⟨b, l.length, none⟩ (.bool x)) b N (l ++ [x]) := by
  unfold VarAt
  rw [setCellOf h]
  congr 2
  rw [List.setIfInBounds_toArray]
  congr 1
  have e : N - l.length = (N - (l ++ [x]).length) + 1 := by simp; omega
  rw [e, List.replicate_succ]
  simp
theorem VarAt.bols {w : World} {b : Nat} {l : List Bool} (h : VarAt w b l.length l) : Bols w w.heap.size (.slice (some ⟨b, 0, none⟩) l.length l.length) l :=
  ⟨_, b, 0, _, rfl, Nat.le_refl _, .inl ⟨rfl, box_lt h⟩, fun i j hi hj => by
    obtain rfl : j = 0 := by omega
    rw [Nat.mul_one, Nat.add_zero, Nat.zero_add, cellOf h]
    simp [hi]⟩
theorem made_bools (N : Nat) : madeCells #[.bool false] N = (((List.replicate N false).map Value.bool).toArray) := by
  apply Array.ext
  · simp [madeCells]
  · intro i h1 h2
    simp [madeCells, Nat.mod_one]
theorem infoBool : (Try.prog.info? 4).map (fun i => (i.zero, i.size, i.bytes)) = some (some (.bool false), 1, 1) := by kernel_rfl
/-- What Most gives where nothing is wrong. -/
def MostR (m : Mo) (l : List (List Int)) (ws : List Int) (w : World) (e : Ending) (w' : World) : Prop :=
  ∃ v x, e = .returned (.tuple #[.int .i64 (bestF m l ws), v, .int .i64 0]) ∧ (exts m.opts.length []).find? (fun y => valF m l ws y == bestF m l ws) = some x ∧ x.length = m.opts.length ∧ Bols w' w'.heap.size v x ∧ Below w.heap.size w w'
theorem fsum_bd (v : Nat → Bool) : ∀ (a : List (List Int)) (ws : List Int), (∀ x ∈ ws, -1000000 ≤ x ∧ x ≤ 1000000) → -1000000 * (a.length : Int) ≤ fsum v a ws ∧ fsum v a ws ≤ 1000000 * (a.length : Int)
  | [], ws, _ => by cases ws <;> simp [fsum]
  | n :: a, [], _ => by simp [fsum]; omega
  | n :: a, x :: ws, h => by
    have h1 := fsum_bd v a ws fun y hy => h y (by simp [hy])
    have h2 := h x (by simp)
    simp only [fsum, List.length_cons]
    split <;> omega
theorem bestF_big {m : Mo} {l : List (List Int)} {ws : List Int} (hw : ∀ x ∈ ws, -1000000 ≤ x ∧ x ≤ 1000000) (hl : l.length ≤ 1000) (hs : satM m (fun _ => true) ≠ []) : leastI < bestF m l ws := by
  obtain ⟨x, hx⟩ := List.exists_mem_of_ne_nil _ hs
  unfold satM at hx
  rw [List.mem_filter] at hx
  have h1 := maxL_mem ((exts m.opts.length []).map (valF m l ws)) (valF m l ws x) (List.mem_map.2 ⟨x, hx.1, rfl⟩)
  have h2 : valF m l ws x = fsum (vf x) l ws := by
    unfold valF; rw [if_pos]; simpa using hx.2
  have h3 := fsum_bd (vf x) l ws hw
  unfold bestF
  unfold leastI at *
  omega
theorem WgAt.setOther {w : World} {F : Fo} {wp : Nat} {wsv : Value} {ws : List Int} {kb cnt : Nat} {m : SmL → Option Int} (h : WgAt w F wp wsv ws kb cnt m) {p : Addr} {u : Value} (h1 : p.block ≠ wp) (h2 : p.block ≠ kb) (h3 : ¬ SF F p.block) (hw : Ints (w.setCell p u) (w.setCell p u).heap.size wsv ws) : WgAt (w.setCell p u) F wp wsv ws kb cnt m :=
  ⟨(Below.heap_setCell _ _ _ _ (fun e => h1 e.symm)).trans h.box, h.fo.same (fun k hk => Below.heap_setCell _ _ _ _ (fun e => h3 (e ▸ hk))), hw, h.map.same (Below.heap_setCell _ _ _ _ (fun e => h2 e.symm)), h.ok, h.nS⟩
theorem Nods.setBool {w : World} {B b N k : Nat} {v : Value} {ns : List Nat} {ls : List Bool} {u : Value} (h : Nods w B v ns) (hv : VarAt w b N ls) : Nods (w.setCell ⟨b, k, none⟩ u) B v ns := by
  obtain ⟨A, b0, off, cap, h1, h2, h3, h4⟩ := h
  refine ⟨A, b0, off, cap, h1, h2, h3, fun i j hi hj => ?_⟩
  rw [← h4 i j hi hj]
  have hne : b0 ≠ b := by
    intro e
    have h5 := h4 i j hi hj
    rw [e, cellOf hv] at h5
    simp only [List.getElem?_toArray, List.getElem?_map] at h5
    generalize (ls ++ List.replicate (N - ls.length) false)[off + (i * 1 + j)]? = q at h5
    cases q with
    | none => simp at h5
    | some x => simp at h5
  exact World.cell?_of_block (Below.heap_setCell _ _ _ _ hne)
theorem VarAt.below {w w' : World} {b N : Nat} {ls : List Bool} (h : VarAt w b N ls) (hb : Below w.heap.size w w') : VarAt w' b N ls := box_to h hb
end Go.Proofs.Ytehadoecnmfeoaa
/- The first variant of the greatest sum, found by going through all. Plain laws. -/
namespace Go.Proofs.Ytehadoecnmfeoaa
set_option linter.unusedVariables false
/-- What has been found of the greatest sum when k variants have been gone through. -/
def FirstMax (vals : Nat → Int) (k : Nat) (best at_ : Int) : Prop :=
  (k = 0 ∧ best = 0 ∧ at_ = -1) ∨ ∃ a : Nat, at_ = a ∧ a < k ∧ vals a = best ∧ (∀ j, j < k → vals j ≤ best) ∧ ∀ j, j < a → vals j < best
theorem FirstMax.start (vals : Nat → Int) : FirstMax vals 0 0 (-1) := .inl ⟨rfl, rfl, rfl⟩
theorem FirstMax.take {vals : Nat → Int} {k : Nat} {best at_ : Int} (h : FirstMax vals k best at_) (hb : at_ < 0 ∨ best < vals k) : FirstMax vals (k + 1) (vals k) k := by
  have hlt : ∀ j, j < k → vals j < vals k := fun j hj => by
    rcases h with ⟨h1, h2, h3⟩ | ⟨a, h1, h2, h3, h4, h5⟩
    · omega
    · rcases hb with hb | hb
      · omega
      · have := h4 j hj
        omega
  refine .inr ⟨k, rfl, by omega, rfl, fun j hj => ?_, hlt⟩
  by_cases hjk : j = k
  · rw [hjk]; exact Int.le_refl _
  · have := hlt j (by omega)
    omega
theorem FirstMax.keep {vals : Nat → Int} {k : Nat} {best at_ : Int} (h : FirstMax vals k best at_) (h0 : 0 ≤ at_) (hb : vals k ≤ best) : FirstMax vals (k + 1) best at_ := by
  rcases h with ⟨h1, h2, h3⟩ | ⟨a, h1, h2, h3, h4, h5⟩
  · omega
  · exact .inr ⟨a, h1, by omega, h3, fun j hj => by
      by_cases hjk : j = k
      · subst hjk; exact hb
      · exact h4 j (by omega), h5⟩
end Go.Proofs.Ytehadoecnmfeoaa
/- The order of variants. Plain laws. -/
namespace Go.Proofs.Ytehadoecnmfeoaa
set_option linter.unusedVariables false
/-- Whether a variant comes before another one. -/
def befB : List Bool → List Bool → Bool
  | a :: x, b :: y => if a = b then befB x y else b
  | _, _ => false
theorem befB_self : ∀ x, befB x x = false
  | [] => rfl
  | a :: x => by simp [befB, befB_self x]
theorem befB_asym : ∀ x y, befB x y = true → befB y x = false
  | [], _, h => by simp [befB] at h
  | _ :: _, [], h => by simp [befB] at h
  | a :: x, b :: y, h => by
    unfold befB at h ⊢
    by_cases hab : a = b
    · rw [if_pos hab] at h
      rw [if_pos hab.symm]
      exact befB_asym x y h
    · rw [if_neg hab] at h
      rw [if_neg (fun e => hab e.symm)]
      cases a <;> cases b <;> simp_all
theorem befB_app (l : List Bool) : ∀ x y, befB (l ++ x) (l ++ y) = befB x y := by
  intro x y
  induction l with
  | nil => rfl
  | cons a l ih => simp only [List.cons_append, befB, if_true, ih]
theorem exts_sorted : ∀ (k : Nat) (l : List Bool), (exts k l).Pairwise fun x y => befB x y = true
  | 0, l => by simp [exts]
  | k + 1, l => by
    have h1 : exts (k + 1) l = exts k (l ++ [false]) ++ exts k (l ++ [true]) := rfl
    rw [h1, List.pairwise_append]
    refine ⟨exts_sorted k _, exts_sorted k _, fun x hx y hy => ?_⟩
    obtain ⟨x', rfl, _⟩ := exts_prefix hx
    obtain ⟨y', rfl, _⟩ := exts_prefix hy
    rw [List.append_assoc, List.append_assoc, befB_app]
    rfl
theorem allM_sorted (m : Mo) : (allM m).Pairwise fun x y => befB x y = true := (exts_sorted _ _).filter _
end Go.Proofs.Ytehadoecnmfeoaa
/- What an audit finds: plain laws. -/
namespace Go.Proofs.Ytehadoecnmfeoaa
set_option linter.unusedVariables false
/-- A module: its formula and its wires. -/
structure Md where
  f : List Int
  ws : List Int
def Md.o : Md := ⟨[], []⟩
def mdIn (w : Nat) (d : Md) : Bool := d.ws.contains (w : Int)
/-- The formulas of the modules that have a wire. -/
def withL (ms : List Md) (w : Nat) : List (List Int) := (ms.filter (mdIn w)).map Md.f
/-- How many formulas hold. -/
def cntV (fs : List (List Int)) (x : List Bool) : Nat := (fs.filter fun g => evF1 (vf x) g).length
/-- The three kinds of defects: 1 lacks, 2 extra, 3 double. -/
def defB (kind : Nat) (is : Bool) (n : Nat) : Bool :=
  match kind with
  | 1 => is && decide (n = 0)
  | 2 => !is && decide (0 < n)
  | _ => is && decide (1 < n)
def frstV (m : Mo) (f : List Int) (fs : List (List Int)) (kind : Nat) : Option (List Bool) := (allM m).find? fun x => defB kind (evF1 (vf x) f) (cntV fs x)
/-- The sooner one of two. -/
def soon (a b : Option (List Bool)) : Option (List Bool) :=
  match a, b with
  | none, y => y
  | some x, none => some x
  | some x, some y => if befB y x then some y else some x
theorem find_or (P q : List Bool → Bool) : ∀ (L : List (List Bool)), L.Pairwise (fun x y => befB x y = true) → L.find? (fun x => P x || q x) = soon (L.find? P) (L.find? q)
  | [], _ => rfl
  | a :: t, hs => by
    obtain ⟨ha, ht⟩ := List.pairwise_cons.1 hs
    have ih := find_or P q t ht
    rw [List.find?_cons, List.find?_cons, List.find?_cons]
    cases hP : P a with
    | true =>
      simp only [Bool.true_or]
      cases hq : q a with
      | true => simp [soon, befB_self]
      | false =>
        simp only
        cases hy : t.find? q with
        | none => rfl
        | some y =>
          have := befB_asym a y (ha y (List.mem_of_find?_eq_some hy))
          simp [soon, this]
    | false =>
      cases hq : q a with
      | true =>
        simp only [Bool.or_true]
        cases hx : t.find? P with
        | none => rfl
        | some x =>
          have := ha x (List.mem_of_find?_eq_some hx)
          simp [soon, this]
      | false =>
        simp only [Bool.or_false]
        exact ih
theorem head_find {L : List (List Bool)} (p : List Bool → Bool) : (L.filter p).head? = L.find? p := by
  induction L with
  | nil => rfl
  | cons a t ih =>
    rw [List.filter_cons, List.find?_cons]
    cases h : p a with
    | true => simp
    | false =>
      simp only [Bool.false_eq_true, if_false]
      exact ih
theorem cntV_pos {fs : List (List Int)} {x : List Bool} : decide (0 < cntV fs x) = fs.any fun g => evF1 (vf x) g := by
  unfold cntV
  rw [Bool.eq_iff_iff, decide_eq_true_eq, List.length_pos_iff, List.any_eq_true]
  constructor
  · intro h
    obtain ⟨g, hg⟩ := List.exists_mem_of_ne_nil _ h
    exact ⟨g, (List.mem_filter.1 hg).1, by simpa using (List.mem_filter.1 hg).2⟩
  · rintro ⟨g, hg, h⟩ h0
    have : g ∈ fs.filter fun g => evF1 (vf x) g := List.mem_filter.2 ⟨hg, by simpa using h⟩
    rw [h0] at this
    cases this
theorem take_step {fs : List (List Int)} {k : Nat} (hk : k < fs.length) : fs.take (k + 1) = fs.take k ++ [fs.getD k []] := by
  rw [List.take_add_one, List.getElem?_eq_getElem hk, List.getD_eq_getElem?_getD, List.getElem?_eq_getElem hk]
  rfl
/-- The program's search for a variant with too much: behind k formulas. -/
def xtrV (m : Mo) (f : List Int) (fs : List (List Int)) (k : Nat) : Option (List Bool) := (allM m).find? fun x => !evF1 (vf x) f && (fs.take k).any fun g => evF1 (vf x) g
theorem xtrV_zero (m : Mo) (f : List Int) (fs : List (List Int)) : xtrV m f fs 0 = none := by
  unfold xtrV
  rw [List.find?_eq_none]
  intro x _
  simp
theorem xtrV_step {m : Mo} {f : List Int} {fs : List (List Int)} {k : Nat} (hk : k < fs.length) : xtrV m f fs (k + 1) = soon (xtrV m f fs k) ((allM m).find? fun x => evF1 (vf x) (fs.getD k []) && !evF1 (vf x) f) := by
  unfold xtrV
  rw [← find_or _ _ _ (allM_sorted m), take_step hk]
  congr 1
  funext x
  rw [List.any_append]
  cases evF1 (vf x) f <;> simp
theorem xtrV_all (m : Mo) (f : List Int) (fs : List (List Int)) : xtrV m f fs fs.length = frstV m f fs 2 := by
  unfold xtrV frstV
  rw [List.take_length]
  congr 1
  funext x
  show _ = (!evF1 (vf x) f && decide (0 < cntV fs x))
  rw [cntV_pos]
/-- Two formulas of which the later one is before i. -/
def dubB (fs : List (List Int)) (x : List Bool) : Nat → Bool
  | 0 => false
  | i + 1 => dubB fs x i || (evF1 (vf x) (fs.getD i []) && (fs.take i).any fun g => evF1 (vf x) g)
def dubV (m : Mo) (f : List Int) (fs : List (List Int)) (i j : Nat) : Option (List Bool) := (allM m).find? fun x => evF1 (vf x) f && (dubB fs x i || (evF1 (vf x) (fs.getD i []) && (fs.take j).any fun g => evF1 (vf x) g))
theorem dubV_zero (m : Mo) (f : List Int) (fs : List (List Int)) : dubV m f fs 0 0 = none := by
  unfold dubV
  rw [List.find?_eq_none]
  intro x _
  simp [dubB]
theorem dubV_in {m : Mo} {f : List Int} {fs : List (List Int)} {i j : Nat} (hj : j < i) (hi : i < fs.length) : dubV m f fs i (j + 1) = soon (dubV m f fs i j) ((allM m).find? fun x => evF1 (vf x) f && (evF1 (vf x) (fs.getD i []) && evF1 (vf x) (fs.getD j []))) := by
  unfold dubV
  rw [← find_or _ _ _ (allM_sorted m), take_step (by omega)]
  congr 1
  funext x
  rw [List.any_append]
  cases evF1 (vf x) f <;> cases evF1 (vf x) (fs.getD i []) <;> simp [Bool.or_assoc]
theorem dubV_next (m : Mo) (f : List Int) (fs : List (List Int)) (i : Nat) : dubV m f fs i i = dubV m f fs (i + 1) 0 := by
  unfold dubV
  congr 1
  funext x
  simp [dubB]
theorem dubB_all (fs : List (List Int)) (x : List Bool) : ∀ i, i ≤ fs.length → dubB fs x i = decide (1 < cntV (fs.take i) x)
  | 0, _ => by simp [dubB, cntV]
  | i + 1, hi => by
    have ih := dubB_all fs x i (by omega)
    show (dubB fs x i || _) = _
    rw [ih, take_step (by omega), ← cntV_pos]
    unfold cntV
    rw [List.filter_append, List.length_append]
    cases h : evF1 (vf x) (fs.getD i []) with
    | true =>
      simp only [List.filter_cons, h, Bool.true_and, List.filter_nil, if_true, List.length_singleton]
      rw [Bool.eq_iff_iff]
      simp only [Bool.or_eq_true, decide_eq_true_eq]
      omega
    | false =>
      have h2 : evF1 (vf x) (fs[i]?.getD []) = false := by rw [← List.getD_eq_getElem?_getD]; exact h
      simp [h2]
theorem dubV_all (m : Mo) (f : List Int) (fs : List (List Int)) : dubV m f fs fs.length 0 = frstV m f fs 3 := by
  unfold dubV frstV
  congr 1
  funext x
  have h := dubB_all fs x fs.length (Nat.le_refl _)
  rw [List.take_length] at h
  show _ = (evF1 (vf x) f && decide (1 < cntV fs x))
  rw [h]
  simp
/-- The weights with which the program looks for a variant that lacks a wire. -/
theorem lack_sum (x : List Bool) : ∀ (fs : List (List Int)), fsum (vf x) fs (List.replicate fs.length (-1)) = -(cntV fs x : Int)
  | [] => rfl
  | g :: fs => by
    have ih := lack_sum x fs
    show (if evF1 (vf x) g then (-1 : Int) else 0) + fsum (vf x) fs (List.replicate fs.length (-1)) = _
    rw [ih]
    unfold cntV
    cases h : evF1 (vf x) g <;> simp [h] <;> omega
def lackW (fs : List (List Int)) : List Int := ((fs.length + 1 : Nat) : Int) :: List.replicate fs.length (-1)
theorem lack_val {m : Mo} {f : List Int} {fs : List (List Int)} {x : List Bool} (hx : x ∈ allM m) : valF m (f :: fs) (lackW fs) x = (if evF1 (vf x) f then ((fs.length + 1 : Nat) : Int) else 0) - (cntV fs x : Int) := by
  have h1 : allF (vf x) m.rules = true := (List.mem_filter.1 hx).2
  unfold valF
  rw [if_pos h1]
  show (if evF1 (vf x) f then ((fs.length + 1 : Nat) : Int) else 0) + fsum (vf x) fs (List.replicate fs.length (-1)) = _
  rw [lack_sum]
  omega
theorem lack_top {m : Mo} {f : List Int} {fs : List (List Int)} {x : List Bool} (hx : x ∈ allM m) : valF m (f :: fs) (lackW fs) x ≤ ((fs.length + 1 : Nat) : Int) ∧ (valF m (f :: fs) (lackW fs) x = ((fs.length + 1 : Nat) : Int) ↔ defB 1 (evF1 (vf x) f) (cntV fs x) = true) := by
  rw [lack_val hx]
  have h1 : defB 1 (evF1 (vf x) f) (cntV fs x) = (evF1 (vf x) f && decide (cntV fs x = 0)) := rfl
  rw [h1]
  cases evF1 (vf x) f with
  | true => simp; omega
  | false => simp; omega
theorem find_congr6 {p q : List Bool → Bool} : ∀ (L : List (List Bool)), (∀ x ∈ L, p x = q x) → L.find? p = L.find? q
  | [], _ => rfl
  | a :: t, h => by
    rw [List.find?_cons, List.find?_cons, h a (by simp), find_congr6 t fun x hx => h x (by simp [hx])]
theorem find_filter6 (p q : List Bool → Bool) : ∀ (L : List (List Bool)), (L.filter p).find? q = L.find? fun x => p x && q x
  | [] => rfl
  | a :: t => by
    rw [List.filter_cons, List.find?_cons]
    cases hp : p a with
    | true =>
      rw [if_pos rfl, List.find?_cons]
      simp [find_filter6 p q t]
    | false =>
      rw [if_neg (by simp)]
      simp [find_filter6 p q t]
/-- What the greatest sum says. -/
theorem lack_law {m : Mo} {f : List Int} {fs : List (List Int)} {x : List Bool} (hl : fs.length ≤ 1000) (hx : (exts m.opts.length []).find? (fun y => valF m (f :: fs) (lackW fs) y == bestF m (f :: fs) (lackW fs)) = some x) :
    (((fs.length + 1 : Nat) : Int) ≤ bestF m (f :: fs) (lackW fs) → frstV m f fs 1 = some x) ∧ (bestF m (f :: fs) (lackW fs) < ((fs.length + 1 : Nat) : Int) → frstV m f fs 1 = none) := by
  have hmx := List.mem_of_find?_eq_some hx
  have hvx := List.find?_some hx
  simp only [beq_iff_eq] at hvx
  have hbest : ∀ y, y ∈ exts m.opts.length [] → valF m (f :: fs) (lackW fs) y ≤ bestF m (f :: fs) (lackW fs) := fun y hy => maxL_mem _ _ (List.mem_map_of_mem hy)
  constructor
  · intro h
    have hin : x ∈ allM m := by
      refine List.mem_filter.2 ⟨hmx, ?_⟩
      cases ha : allF (vf x) m.rules with
      | true => rfl
      | false =>
        unfold valF at hvx
        rw [ha, if_neg (by simp)] at hvx
        rw [← hvx] at h
        unfold leastI at h
        omega
    have htop := (lack_top (f := f) (fs := fs) hin).1
    rw [← hx]
    unfold frstV allM
    rw [find_filter6]
    refine find_congr6 _ fun y hy => ?_
    cases ha : allF (vf y) m.rules with
    | true =>
      have hyi : y ∈ allM m := List.mem_filter.2 ⟨hy, ha⟩
      have h2 := lack_top (f := f) (fs := fs) hyi
      rw [Bool.true_and, Bool.eq_iff_iff, ← h2.2, beq_iff_eq]
      omega
    | false =>
      have h3 : valF m (f :: fs) (lackW fs) y = leastI := by unfold valF; rw [ha]; rfl
      rw [h3, Bool.false_and]
      symm
      rw [beq_eq_false_iff_ne]
      unfold leastI
      omega
  · intro h
    unfold frstV
    rw [List.find?_eq_none]
    intro y hy hd
    have h2 := lack_top (f := f) (fs := fs) hy
    have h3 := hbest y (List.mem_filter.1 hy).1
    have h4 := h2.2.2 hd
    omega
end Go.Proofs.Ytehadoecnmfeoaa
/- What can be reached in a loom: the program's list and the reference's marks say the same: plain laws. -/
namespace Go.Proofs.Ytehadoecnmfeoaa
set_option linter.unusedVariables false
set_option linter.unusedSimpArgs false
/-- What can be reached from a spot by the runs but one. -/
inductive Rch (rs : List (Nat × Nat)) (w : Int) (s : Nat) : Nat → Prop
  | base : Rch rs w s s
  | fwd {x y k : Nat} : Rch rs w s x → k < rs.length → (k : Int) ≠ w → rs.getD k (0, 0) = (x, y) → Rch rs w s y
  | bwd {x y k : Nat} : Rch rs w s x → k < rs.length → (k : Int) ≠ w → rs.getD k (0, 0) = (y, x) → Rch rs w s y
def stepA (w : Int) (x : Nat) (out : List Nat) (k : Nat) (a b : Nat) : List Nat := if (k : Int) ≠ w ∧ a = x ∧ b ∉ out then out ++ [b] else out
def stepR (w : Int) (x : Nat) (out : List Nat) (k : Nat) (r : Nat × Nat) : List Nat := stepA w x (stepA w x out k r.1 r.2) k r.2 r.1
def scanR (rs : List (Nat × Nat)) (w : Int) (x : Nat) (out : List Nat) : Nat → List Nat
  | 0 => out
  | k + 1 => stepR w x (scanR rs w x out k) k (rs.getD k (0, 0))
def stR (rs : List (Nat × Nat)) (w : Int) (s : Nat) : Nat → List Nat
  | 0 => [s]
  | i + 1 => if i < (stR rs w s i).length then scanR rs w ((stR rs w s i).getD i 0) (stR rs w s i) rs.length else stR rs w s i
theorem stepA_pre (w : Int) (x : Nat) (out : List Nat) (k a b : Nat) : out <+: stepA w x out k a b := by
  unfold stepA
  split
  · exact List.prefix_append _ _
  · exact List.prefix_rfl
theorem stepR_pre (w : Int) (x : Nat) (out : List Nat) (k : Nat) (r : Nat × Nat) : out <+: stepR w x out k r := (stepA_pre ..).trans (stepA_pre ..)
theorem scanR_pre (rs : List (Nat × Nat)) (w : Int) (x : Nat) (out : List Nat) : ∀ k, out <+: scanR rs w x out k
  | 0 => List.prefix_rfl
  | k + 1 => (scanR_pre rs w x out k).trans (stepR_pre ..)
theorem scanR_pre' (rs : List (Nat × Nat)) (w : Int) (x : Nat) (out : List Nat) {j k : Nat} (h : j ≤ k) : scanR rs w x out j <+: scanR rs w x out k := by
  induction k with
  | zero => rw [show j = 0 by omega]; exact List.prefix_rfl
  | succ k ih =>
    rcases Nat.lt_or_ge j (k + 1) with h1 | h1
    · exact (ih (by omega)).trans (stepR_pre ..)
    · rw [show j = k + 1 by omega]; exact List.prefix_rfl
theorem stR_pre1 (rs : List (Nat × Nat)) (w : Int) (s : Nat) (i : Nat) : stR rs w s i <+: stR rs w s (i + 1) := by
  show _ <+: (if _ then _ else _)
  split
  · exact scanR_pre ..
  · exact List.prefix_rfl
theorem stR_pre (rs : List (Nat × Nat)) (w : Int) (s : Nat) {i j : Nat} (h : i ≤ j) : stR rs w s i <+: stR rs w s j := by
  induction j with
  | zero => rw [show i = 0 by omega]; exact List.prefix_rfl
  | succ j ih =>
    rcases Nat.lt_or_ge i (j + 1) with h1 | h1
    · exact (ih (by omega)).trans (stR_pre1 ..)
    · rw [show i = j + 1 by omega]; exact List.prefix_rfl
theorem stepA_nodup {w : Int} {x : Nat} {out : List Nat} {k a b : Nat} (h : out.Nodup) : (stepA w x out k a b).Nodup := by
  unfold stepA
  split
  · rename_i h1
    rw [List.nodup_append]
    exact ⟨h, by simp, fun y hy z hz => by simp at hz; subst hz; exact fun e => h1.2.2 (e ▸ hy)⟩
  · exact h
theorem scanR_nodup {rs : List (Nat × Nat)} {w : Int} {x : Nat} {out : List Nat} (h : out.Nodup) : ∀ k, (scanR rs w x out k).Nodup
  | 0 => h
  | k + 1 => stepA_nodup (stepA_nodup (scanR_nodup h k))
theorem stR_nodup (rs : List (Nat × Nat)) (w : Int) (s : Nat) : ∀ i, (stR rs w s i).Nodup
  | 0 => by simp [stR]
  | i + 1 => by
    show List.Nodup (if _ then _ else _)
    split
    · exact scanR_nodup (stR_nodup rs w s i) _
    · exact stR_nodup rs w s i
theorem scanR_rch {rs : List (Nat × Nat)} {w : Int} {s x : Nat} {out : List Nat} (h : ∀ y ∈ out, Rch rs w s y) (hx : Rch rs w s x) : ∀ k, k ≤ rs.length → ∀ y ∈ scanR rs w x out k, Rch rs w s y
  | 0, _, y, hy => h y hy
  | k + 1, hk, y, hy => by
    have ih := scanR_rch h hx k (by omega)
    obtain ⟨a, b, hr⟩ : ∃ a b, rs.getD k (0, 0) = (a, b) := ⟨_, _, rfl⟩
    have hy' : y ∈ stepA w x (stepA w x (scanR rs w x out k) k (rs.getD k (0, 0)).1 (rs.getD k (0, 0)).2) k (rs.getD k (0, 0)).2 (rs.getD k (0, 0)).1 := hy
    rw [hr] at hy'
    unfold stepA at hy'
    simp only at hy'
    have key : ∀ L : List Nat, (∀ z ∈ L, Rch rs w s z) → ∀ c d : Nat, (rs.getD k (0, 0) = (c, d) ∨ rs.getD k (0, 0) = (d, c)) → ∀ z ∈ (if (k : Int) ≠ w ∧ c = x ∧ d ∉ L then L ++ [d] else L), Rch rs w s z := by
      intro L hL c d hcd z hz
      split at hz
      · rename_i h1
        rcases List.mem_append.1 hz with h2 | h2
        · exact hL z h2
        · simp at h2
          subst h2
          obtain ⟨h3, rfl, _⟩ := h1
          rcases hcd with h4 | h4
          · exact .fwd hx (by omega) h3 h4
          · exact .bwd hx (by omega) h3 h4
      · exact hL z hz
    exact key _ (key _ ih a b (.inl hr)) b a (.inr hr) y hy'
theorem lGetD_mem {l : List Nat} {i : Nat} (h : i < l.length) : l.getD i 0 ∈ l := by
  rw [List.getD_eq_getElem?_getD, List.getElem?_eq_getElem h]
  exact List.getElem_mem h
theorem stR_rch (rs : List (Nat × Nat)) (w : Int) (s : Nat) : ∀ i, ∀ y ∈ stR rs w s i, Rch rs w s y
  | 0, y, hy => by simp [stR] at hy; subst hy; exact .base
  | i + 1, y, hy => by
    have ih := stR_rch rs w s i
    have hy' : y ∈ (if i < (stR rs w s i).length then scanR rs w ((stR rs w s i).getD i 0) (stR rs w s i) rs.length else stR rs w s i) := hy
    split at hy'
    · rename_i h1
      exact scanR_rch ih (ih _ (lGetD_mem h1)) _ (Nat.le_refl _) y hy'
    · exact ih y hy'
theorem stepA_has {w : Int} {x : Nat} {out : List Nat} {k a b : Nat} (h : (k : Int) ≠ w) (ha : a = x) : b ∈ stepA w x out k a b := by
  unfold stepA
  by_cases hb : b ∈ out
  · rw [if_neg (fun q => q.2.2 hb)]; exact hb
  · rw [if_pos ⟨h, ha, hb⟩]; simp
theorem scanR_has {rs : List (Nat × Nat)} {w : Int} {x : Nat} {out : List Nat} {k : Nat} (hk : k < rs.length) (h : (k : Int) ≠ w) {a b : Nat} (hr : rs.getD k (0, 0) = (a, b)) :
    (a = x → b ∈ scanR rs w x out rs.length) ∧ (b = x → a ∈ scanR rs w x out rs.length) := by
  have hp := scanR_pre' rs w x out (show k + 1 ≤ rs.length by omega)
  have e : scanR rs w x out (k + 1) = stepA w x (stepA w x (scanR rs w x out k) k a b) k b a := by
    show stepR _ _ _ _ _ = _
    rw [hr]; rfl
  rw [e] at hp
  exact ⟨fun ha => hp.subset ((stepA_pre ..).subset (stepA_has h ha)), fun hb => hp.subset (stepA_has h hb)⟩
theorem pre_getD {l m : List Nat} (h : l <+: m) {i : Nat} (hi : i < l.length) : m.getD i 0 = l.getD i 0 := by
  obtain ⟨t, rfl⟩ := h
  simp [List.getD_eq_getElem?_getD, List.getElem?_append_left hi]
/-- Behind round i all that its spots lead to is there. -/
theorem stR_closed {rs : List (Nat × Nat)} {w : Int} {s : Nat} {i j : Nat} (hj : j < i) (hl : j < (stR rs w s i).length) {k : Nat} (hk : k < rs.length) (h : (k : Int) ≠ w) {a b : Nat} (hr : rs.getD k (0, 0) = (a, b)) :
    (a = (stR rs w s i).getD j 0 → b ∈ stR rs w s i) ∧ (b = (stR rs w s i).getD j 0 → a ∈ stR rs w s i) := by
  induction i with
  | zero => omega
  | succ i ih =>
    have e : stR rs w s (i + 1) = if i < (stR rs w s i).length then scanR rs w ((stR rs w s i).getD i 0) (stR rs w s i) rs.length else stR rs w s i := rfl
    have hp := stR_pre1 rs w s i
    rcases Nat.lt_or_ge j i with h1 | h1
    · by_cases h2 : j < (stR rs w s i).length
      · obtain ⟨q1, q2⟩ := ih h1 h2
        rw [pre_getD hp h2]
        exact ⟨fun q => hp.subset (q1 q), fun q => hp.subset (q2 q)⟩
      · rw [if_neg (by omega)] at e
        rw [e] at hl
        exact absurd hl h2
    · obtain rfl : j = i := by omega
      by_cases h2 : j < (stR rs w s j).length
      · rw [pre_getD hp h2]
        rw [e, if_pos h2]
        exact scanR_has hk h hr
      · rw [if_neg h2] at e
        rw [e] at hl
        exact absurd hl h2
/-- A round that has come to the end of the list: the list is all that can be reached. -/
theorem stR_all {rs : List (Nat × Nat)} {w : Int} {s i : Nat} (hi : (stR rs w s i).length ≤ i) (y : Nat) : y ∈ stR rs w s i ↔ Rch rs w s y := by
  refine ⟨stR_rch rs w s i y, fun h => ?_⟩
  induction h with
  | base =>
    have hp := stR_pre rs w s (Nat.zero_le i)
    exact hp.subset (by simp [stR])
  | fwd _ hk hw hr ih =>
    obtain ⟨j, hj, e⟩ := List.getElem_of_mem ih
    exact (stR_closed (show j < i by omega) hj hk hw hr).1 (by simp [List.getD_eq_getElem?_getD, hj, e])
  | bwd _ hk hw hr ih =>
    obtain ⟨j, hj, e⟩ := List.getElem_of_mem ih
    exact (stR_closed (show j < i by omega) hj hk hw hr).2 (by simp [List.getD_eq_getElem?_getD, hj, e])
theorem rch_lt {rs : List (Nat × Nat)} {w : Int} {s n y : Nat} (hs : s < n) (hrs : ∀ k, k < rs.length → (rs.getD k (0, 0)).1 < n ∧ (rs.getD k (0, 0)).2 < n) (h : Rch rs w s y) : y < n := by
  induction h with
  | base => exact hs
  | fwd _ hk _ hr _ => have := (hrs _ hk).2; rw [hr] at this; exact this
  | bwd _ hk _ hr _ => have := (hrs _ hk).1; rw [hr] at this; exact this
theorem nodup_sub : ∀ {l m : List Nat}, l.Nodup → l ⊆ m → l.length ≤ m.length
  | [], _, _, _ => Nat.zero_le _
  | a :: t, m, hd, h => by
    have hm : a ∈ m := h (List.mem_cons_self ..)
    have ht := nodup_sub (m := m.erase a) (List.nodup_cons.1 hd).2 fun y hy => (List.mem_erase_of_ne (fun e : y = a => (List.nodup_cons.1 hd).1 (by rw [← e]; exact hy))).2 (h (List.mem_cons_of_mem _ hy))
    rw [List.length_erase_of_mem hm] at ht
    have := List.length_pos_of_mem hm
    show t.length + 1 ≤ _
    omega
theorem nodup_len {l : List Nat} {n : Nat} (hd : l.Nodup) (h : ∀ y ∈ l, y < n) : l.length ≤ n := by
  have h1 : l ⊆ List.range n := fun y hy => by simpa using h y hy
  simpa using nodup_sub hd h1
theorem stR_len {rs : List (Nat × Nat)} {w : Int} {s n : Nat} (hs : s < n) (hrs : ∀ k, k < rs.length → (rs.getD k (0, 0)).1 < n ∧ (rs.getD k (0, 0)).2 < n) (i : Nat) : (stR rs w s i).length ≤ n :=
  nodup_len (stR_nodup ..) fun y hy => rch_lt hs hrs (stR_rch rs w s i y hy)
/-- All n spots can be reached exactly if the list has n. -/
theorem stR_full {rs : List (Nat × Nat)} {w : Int} {s n i : Nat} (hs : s < n) (hrs : ∀ k, k < rs.length → (rs.getD k (0, 0)).1 < n ∧ (rs.getD k (0, 0)).2 < n) (hi : (stR rs w s i).length ≤ i) : (stR rs w s i).length = n ↔ ∀ y, y < n → Rch rs w s y := by
  constructor
  · intro h y hy
    rw [← stR_all hi]
    refine Decidable.byContradiction fun hn => ?_
    have h2 : (y :: stR rs w s i).Nodup := List.nodup_cons.2 ⟨hn, stR_nodup ..⟩
    have h3 := nodup_len h2 fun z hz => by
      rcases List.mem_cons.1 hz with rfl | hz
      · exact hy
      · exact rch_lt hs hrs (stR_rch rs w s i z hz)
    simp only [List.length_cons] at h3
    omega
  · intro h
    have h1 : List.range n ⊆ stR rs w s i := fun y hy => (stR_all hi y).2 (h y (by simpa using hy))
    have h2 := nodup_sub List.nodup_range h1
    have h3 := stR_len (w := w) hs hrs i
    simp at h2
    omega
end Go.Proofs.Ytehadoecnmfeoaa

/- Part 14 of this claim's texts: walks and plain laws. -/
import Derived.Test.YtehadoecnmfeoaaGreatRows
import Derived.Test.YtehadoecnmfeoaaGreatGBY12
import Derived.Test.YtehadoecnmfeoaaGreatGBY13
import Derived.Laws.MakeOwn
import Derived.Test.YtehadoecnmfeoaaGreatGBY11
import Derived.Test.YtehadoecnmfeoaaGreatGBY10
/- Most: walk. -/
namespace Go.Proofs.YtehadoecnmfeoaaGreat
open Go.RowKit
open Go.Maps (Keyed)
set_option linter.unusedVariables false
set_option linter.unusedSimpArgs false
theorem Stk.push {B : Nat} {w w1 : World} {F : Fo} {A : Option Addr} {n cap m : Nat} {S : List Nat} {v1 : Value} {o : Obj} (h : Stk B w F (.slice A n cap) S) (hF : FoAt w F) (hown : w1.ownsRow B 3 1 v1 (S.length + 1) ((S.map fun (n : Nat) => Value.int .i64 n) ++ [.int .i64 (m : Nat)])) (hg : (w.alloc o).grownBy w1 (Value.slice A n cap).ownBlock)
    (hat : v1.ownBlock = (Value.slice A n cap).ownBlock ∨ v1.ownBlock = some (w.alloc o).heap.size) : Stk B w1 F v1 (S ++ [m]) ∧ Keeps (fun i => (Value.slice A n cap).ownBlock = some i) w w1 := by
  refine ⟨⟨?_, fun b hb hs => ?_⟩, Keeps.trans ((Keeps.refl _ w).alloc _) (Keeps.of_grown hg (fun k hk => hk)) (fun _ _ h => h)⟩
  · rw [List.length_append, List.length_singleton, List.map_append]; exact hown
  · rcases hat with e | e
    · exact h.2 b (by rw [← hb, e]) hs
    · rw [hb] at e
      injection e with e
      have := hF.slt hs
      simp at e
      omega
def Bols (w : World) (B : Nat) (v : Value) (l : List Bool) : Prop := Sl w B 1 v l.length (fun i _ => .bool (l.getD i false))
/-- A variant being made: the first choices, and then none. -/
def VarAt (w : World) (b N : Nat) (l : List Bool) : Prop := w.heap[b]? = some (.cells ((l ++ List.replicate (N - l.length) false).map Value.bool).toArray 4 (0, 0))
theorem VarAt.cell {w : World} {b N : Nat} {l : List Bool} (h : VarAt w b N l) (hl : l.length < N) : w.cell? ⟨b, l.length, none⟩ = some (.bool false) := by
  rw [cellOf h]
  simp only [List.getElem?_toArray, List.getElem?_map]
  rw [List.getElem?_append_right (Nat.le_refl _), Nat.sub_self, List.getElem?_replicate, if_pos (by omega)]
  rfl
theorem VarAt.set {w : World} {b N : Nat} {l : List Bool} (h : VarAt w b N l) (hl : l.length < N) (x : Bool) : VarAt (w.setCell ⟨b, l.length, none⟩ (.bool x)) b N (l ++ [x]) := by
  unfold VarAt
  rw [setCellOf h]
  congr 2
  rw [List.setIfInBounds_toArray]
  congr 1
  have e : N - l.length = (N - (l ++ [x]).length) + 1 := by simp; omega
  rw [e, List.replicate_succ]
  simp
theorem VarAt.bols {w : World} {b : Nat} {l : List Bool} (h : VarAt w b l.length l) : Bols w w.heap.size (.slice (some ⟨b, 0, none⟩) l.length l.length) l :=
  ⟨_, b, 0, _, rfl, Nat.le_refl _, .inl ⟨rfl, box_lt h⟩, fun i j hi hj => by
    obtain rfl : j = 0 := by omega
    rw [Nat.mul_one, Nat.add_zero, Nat.zero_add, cellOf h]
    simp [hi]⟩
theorem made_bools (N : Nat) : madeCells #[.bool false] N = (((List.replicate N false).map Value.bool).toArray) := by
  apply Array.ext
  · simp [madeCells]
  · intro i h1 h2
    simp [madeCells, Nat.mod_one]
theorem infoBool : (Tryz.prog.info? 4).map (fun i => (i.zero, i.size, i.bytes)) = some (some (.bool false), 1, 1) := by kernel_rfl
/-- What Most gives where nothing is wrong. -/
def MostR (m : Mo) (l : List (List Int)) (ws : List Int) (w : World) (e : Ending) (w' : World) : Prop :=
  ∃ v x, e = .returned (.tuple #[.int .i64 (bestF m l ws), v, .int .i64 0]) ∧ (exts m.opts.length []).find? (fun y => valF m l ws y == bestF m l ws) = some x ∧ x.length = m.opts.length ∧ Bols w' w'.heap.size v x ∧ Below w.heap.size w w'
theorem fsum_bd (v : Nat → Bool) : ∀ (a : List (List Int)) (ws : List Int), (∀ x ∈ ws, -1000000 ≤ x ∧ x ≤ 1000000) → -1000000 * (a.length : Int) ≤ fsum v a ws ∧ fsum v a ws ≤ 1000000 * (a.length : Int)
  | [], ws, _ => by cases ws <;> simp [fsum]
  | n :: a, [], _ => by simp [fsum]; omega
  | n :: a, x :: ws, h => by
    have h1 := fsum_bd v a ws fun y hy => h y (by simp [hy])
    have h2 := h x (by simp)
    simp only [fsum, List.length_cons]
    split <;> omega
theorem bestF_big {m : Mo} {l : List (List Int)} {ws : List Int} (hw : ∀ x ∈ ws, -1000000 ≤ x ∧ x ≤ 1000000) (hl : l.length ≤ 1000) (hs : satM m (fun _ => true) ≠ []) : leastI < bestF m l ws := by
  obtain ⟨x, hx⟩ := List.exists_mem_of_ne_nil _ hs
  unfold satM at hx
  rw [List.mem_filter] at hx
  have h1 := maxL_mem ((exts m.opts.length []).map (valF m l ws)) (valF m l ws x) (List.mem_map.2 ⟨x, hx.1, rfl⟩)
  have h2 : valF m l ws x = fsum (vf x) l ws := by
    unfold valF; rw [if_pos]; simpa using hx.2
  have h3 := fsum_bd (vf x) l ws hw
  unfold bestF
  unfold leastI at *
  omega
theorem WgAt.setOther {w : World} {F : Fo} {wp : Nat} {wsv : Value} {ws : List Int} {kb cnt : Nat} {m : SmL → Option Int} (h : WgAt w F wp wsv ws kb cnt m) {p : Addr} {u : Value} (h1 : p.block ≠ wp) (h2 : p.block ≠ kb) (h3 : ¬ SF F p.block) (hw : Ints (w.setCell p u) (w.setCell p u).heap.size wsv ws) : WgAt (w.setCell p u) F wp wsv ws kb cnt m :=
  ⟨(Below.heap_setCell _ _ _ _ (fun e => h1 e.symm)).trans h.box, h.fo.same (fun k hk => Below.heap_setCell _ _ _ _ (fun e => h3 (e ▸ hk))), hw, h.map.same (Below.heap_setCell _ _ _ _ (fun e => h2 e.symm)), h.ok, h.nS⟩
theorem Nods.setBool {w : World} {B b N k : Nat} {v : Value} {ns : List Nat} {ls : List Bool} {u : Value} (h : Nods w B v ns) (hv : VarAt w b N ls) : Nods (w.setCell ⟨b, k, none⟩ u) B v ns := by
  obtain ⟨A, b0, off, cap, h1, h2, h3, h4⟩ := h
  refine ⟨A, b0, off, cap, h1, h2, h3, fun i j hi hj => ?_⟩
  rw [← h4 i j hi hj]
  have hne : b0 ≠ b := by
    intro e
    have h5 := h4 i j hi hj
    rw [e, cellOf hv] at h5
    simp only [List.getElem?_toArray, List.getElem?_map] at h5
    generalize (ls ++ List.replicate (N - ls.length) false)[off + (i * 1 + j)]? = q at h5
    cases q with
    | none => simp at h5
    | some x => simp at h5
  exact World.cell?_of_block (Below.heap_setCell _ _ _ _ hne)
theorem VarAt.below {w w' : World} {b N : Nat} {ls : List Bool} (h : VarAt w b N ls) (hb : Below w.heap.size w w') : VarAt w' b N ls := box_to h hb
end Go.Proofs.YtehadoecnmfeoaaGreat
/- The first variant of the greatest sum, found by going through all. Plain laws. -/
namespace Go.Proofs.YtehadoecnmfeoaaGreat
set_option linter.unusedVariables false
/-- What has been found of the greatest sum when k variants have been gone through. -/
def FirstMax (vals : Nat → Int) (k : Nat) (best at_ : Int) : Prop :=
  (k = 0 ∧ best = 0 ∧ at_ = -1) ∨ ∃ a : Nat, at_ = a ∧ a < k ∧ vals a = best ∧ (∀ j, j < k → vals j ≤ best) ∧ ∀ j, j < a → vals j < best
theorem FirstMax.start (vals : Nat → Int) : FirstMax vals 0 0 (-1) := .inl ⟨rfl, rfl, rfl⟩
theorem FirstMax.take {vals : Nat → Int} {k : Nat} {best at_ : Int} (h : FirstMax vals k best at_) (hb : at_ < 0 ∨ best < vals k) : FirstMax vals (k + 1) (vals k) k := by
  have hlt : ∀ j, j < k → vals j < vals k := fun j hj => by
    rcases h with ⟨h1, h2, h3⟩ | ⟨a, h1, h2, h3, h4, h5⟩
    · omega
    · rcases hb with hb | hb
      · omega
      · have := h4 j hj
        omega
  refine .inr ⟨k, rfl, by omega, rfl, fun j hj => ?_, hlt⟩
  by_cases hjk : j = k
  · rw [hjk]; exact Int.le_refl _
  · have := hlt j (by omega)
    omega
theorem FirstMax.keep {vals : Nat → Int} {k : Nat} {best at_ : Int} (h : FirstMax vals k best at_) (h0 : 0 ≤ at_) (hb : vals k ≤ best) : FirstMax vals (k + 1) best at_ := by
  rcases h with ⟨h1, h2, h3⟩ | ⟨a, h1, h2, h3, h4, h5⟩
  · omega
  · exact .inr ⟨a, h1, by omega, h3, fun j hj => by
      by_cases hjk : j = k
      · subst hjk; exact hb
      · exact h4 j (by omega), h5⟩
end Go.Proofs.YtehadoecnmfeoaaGreat
/- The order of variants. Plain laws. -/
namespace Go.Proofs.YtehadoecnmfeoaaGreat
set_option linter.unusedVariables false
/-- Whether a variant comes before another one. -/
def befB : List Bool → List Bool → Bool
  | a :: x, b :: y => if a = b then befB x y else b
  | _, _ => false
theorem befB_self : ∀ x, befB x x = false
  | [] => rfl
  | a :: x => by simp [befB, befB_self x]
theorem befB_asym : ∀ x y, befB x y = true → befB y x = false
  | [], _, h => by simp [befB] at h
  | _ :: _, [], h => by simp [befB] at h
  | a :: x, b :: y, h => by
    unfold befB at h ⊢
    by_cases hab : a = b
    · rw [if_pos hab] at h
      rw [if_pos hab.symm]
      exact befB_asym x y h
    · rw [if_neg hab] at h
      rw [if_neg (fun e => hab e.symm)]
      cases a <;> cases b <;> simp_all
theorem befB_app (l : List Bool) : ∀ x y, befB (l ++ x) (l ++ y) = befB x y := by
  intro x y
  induction l with
  | nil => rfl
  | cons a l ih => simp only [List.cons_append, befB, if_true, ih]
theorem exts_sorted : ∀ (k : Nat) (l : List Bool), (exts k l).Pairwise fun x y => befB x y = true
  | 0, l => by simp [exts]
  | k + 1, l => by
    have h1 : exts (k + 1) l = exts k (l ++ [false]) ++ exts k (l ++ [true]) := rfl
    rw [h1, List.pairwise_append]
    refine ⟨exts_sorted k _, exts_sorted k _, fun x hx y hy => ?_⟩
    obtain ⟨x', rfl, _⟩ := exts_prefix hx
    obtain ⟨y', rfl, _⟩ := exts_prefix hy
    rw [List.append_assoc, List.append_assoc, befB_app]
    rfl
theorem allM_sorted (m : Mo) : (allM m).Pairwise fun x y => befB x y = true := (exts_sorted _ _).filter _
end Go.Proofs.YtehadoecnmfeoaaGreat
/- What an audit finds: plain laws. -/
namespace Go.Proofs.YtehadoecnmfeoaaGreat
set_option linter.unusedVariables false
/-- A module: its formula and its wires. -/
structure Md where
  f : List Int
  ws : List Int
def Md.o : Md := ⟨[], []⟩
def mdIn (w : Nat) (d : Md) : Bool := d.ws.contains (w : Int)
/-- The formulas of the modules that have a wire. -/
def withL (ms : List Md) (w : Nat) : List (List Int) := (ms.filter (mdIn w)).map Md.f
/-- How many formulas hold. -/
def cntV (fs : List (List Int)) (x : List Bool) : Nat := (fs.filter fun g => evF1 (vf x) g).length
/-- The three kinds of defects: 1 lacks, 2 extra, 3 double. -/
def defB (kind : Nat) (is : Bool) (n : Nat) : Bool :=
  match kind with
  | 1 => is && decide (n = 0)
  | 2 => !is && decide (0 < n)
  | _ => is && decide (1 < n)
def frstV (m : Mo) (f : List Int) (fs : List (List Int)) (kind : Nat) : Option (List Bool) := (allM m).find? fun x => defB kind (evF1 (vf x) f) (cntV fs x)
/-- The sooner one of two. -/
def soon (a b : Option (List Bool)) : Option (List Bool) :=
  match a, b with
  | none, y => y
  | some x, none => some x
  | some x, some y => if befB y x then some y else some x
theorem find_or (P q : List Bool → Bool) : ∀ (L : List (List Bool)), L.Pairwise (fun x y => befB x y = true) → L.find? (fun x => P x || q x) = soon (L.find? P) (L.find? q)
  | [], _ => rfl
  | a :: t, hs => by
    obtain ⟨ha, ht⟩ := List.pairwise_cons.1 hs
    have ih := find_or P q t ht
    rw [List.find?_cons, List.find?_cons, List.find?_cons]
    cases hP : P a with
    | true =>
      simp only [Bool.true_or]
      cases hq : q a with
      | true => simp [soon, befB_self]
      | false =>
        simp only
        cases hy : t.find? q with
        | none => rfl
        | some y =>
          have := befB_asym a y (ha y (List.mem_of_find?_eq_some hy))
          simp [soon, this]
    | false =>
      cases hq : q a with
      | true =>
        simp only [Bool.or_true]
        cases hx : t.find? P with
        | none => rfl
        | some x =>
          have := ha x (List.mem_of_find?_eq_some hx)
          simp [soon, this]
      | false =>
        simp only [Bool.or_false]
        exact ih
theorem head_find {L : List (List Bool)} (p : List Bool → Bool) : (L.filter p).head? = L.find? p := by
  induction L with
  | nil => rfl
  | cons a t ih =>
    rw [List.filter_cons, List.find?_cons]
    cases h : p a with
    | true => simp
    | false =>
      simp only [Bool.false_eq_true, if_false]
      exact ih
theorem cntV_pos {fs : List (List Int)} {x : List Bool} : decide (0 < cntV fs x) = fs.any fun g => evF1 (vf x) g := by
  unfold cntV
  rw [Bool.eq_iff_iff, decide_eq_true_eq, List.length_pos_iff, List.any_eq_true]
  constructor
  · intro h
    obtain ⟨g, hg⟩ := List.exists_mem_of_ne_nil _ h
    exact ⟨g, (List.mem_filter.1 hg).1, by simpa using (List.mem_filter.1 hg).2⟩
  · rintro ⟨g, hg, h⟩ h0
    have : g ∈ fs.filter fun g => evF1 (vf x) g := List.mem_filter.2 ⟨hg, by simpa using h⟩
    rw [h0] at this
    cases this
theorem take_step {fs : List (List Int)} {k : Nat} (hk : k < fs.length) : fs.take (k + 1) = fs.take k ++ [fs.getD k []] := by
  rw [List.take_add_one, List.getElem?_eq_getElem hk, List.getD_eq_getElem?_getD, List.getElem?_eq_getElem hk]
  rfl
/-- The program's search for a variant with too much: behind k formulas. -/
def xtrV (m : Mo) (f : List Int) (fs : List (List Int)) (k : Nat) : Option (List Bool) := (allM m).find? fun x => !evF1 (vf x) f && (fs.take k).any fun g => evF1 (vf x) g
theorem xtrV_zero (m : Mo) (f : List Int) (fs : List (List Int)) : xtrV m f fs 0 = none := by
  unfold xtrV
  rw [List.find?_eq_none]
  intro x _
  simp
theorem xtrV_step {m : Mo} {f : List Int} {fs : List (List Int)} {k : Nat} (hk : k < fs.length) : xtrV m f fs (k + 1) = soon (xtrV m f fs k) ((allM m).find? fun x => evF1 (vf x) (fs.getD k []) && !evF1 (vf x) f) := by
  unfold xtrV
  rw [← find_or _ _ _ (allM_sorted m), take_step hk]
  congr 1
  funext x
  rw [List.any_append]
  cases evF1 (vf x) f <;> simp
theorem xtrV_all (m : Mo) (f : List Int) (fs : List (List Int)) : xtrV m f fs fs.length = frstV m f fs 2 := by
  unfold xtrV frstV
  rw [List.take_length]
  congr 1
  funext x
  show _ = (!evF1 (vf x) f && decide (0 < cntV fs x))
  rw [cntV_pos]
/-- Two formulas of which the later one is before i. -/
def dubB (fs : List (List Int)) (x : List Bool) : Nat → Bool
  | 0 => false
  | i + 1 => dubB fs x i || (evF1 (vf x) (fs.getD i []) && (fs.take i).any fun g => evF1 (vf x) g)
def dubV (m : Mo) (f : List Int) (fs : List (List Int)) (i j : Nat) : Option (List Bool) := (allM m).find? fun x => evF1 (vf x) f && (dubB fs x i || (evF1 (vf x) (fs.getD i []) && (fs.take j).any fun g => evF1 (vf x) g))
theorem dubV_zero (m : Mo) (f : List Int) (fs : List (List Int)) : dubV m f fs 0 0 = none := by
  unfold dubV
  rw [List.find?_eq_none]
  intro x _
  simp [dubB]
theorem dubV_in {m : Mo} {f : List Int} {fs : List (List Int)} {i j : Nat} (hj : j < i) (hi : i < fs.length) : dubV m f fs i (j + 1) = soon (dubV m f fs i j) ((allM m).find? fun x => evF1 (vf x) f && (evF1 (vf x) (fs.getD i []) && evF1 (vf x) (fs.getD j []))) := by
  unfold dubV
  rw [← find_or _ _ _ (allM_sorted m), take_step (by omega)]
  congr 1
  funext x
  rw [List.any_append]
  cases evF1 (vf x) f <;> cases evF1 (vf x) (fs.getD i []) <;> simp [Bool.or_assoc]
theorem dubV_next (m : Mo) (f : List Int) (fs : List (List Int)) (i : Nat) : dubV m f fs i i = dubV m f fs (i + 1) 0 := by
  unfold dubV
  congr 1
  funext x
  simp [dubB]
theorem dubB_all (fs : List (List Int)) (x : List Bool) : ∀ i, i ≤ fs.length → dubB fs x i = decide (1 < cntV (fs.take i) x)
  | 0, _ => by simp [dubB, cntV]
  | i + 1, hi => by
    have ih := dubB_all fs x i (by omega)
    show (dubB fs x i || _) = _
    rw [ih, take_step (by omega), ← cntV_pos]
    unfold cntV
    rw [List.filter_append, List.length_append]
    cases h : evF1 (vf x) (fs.getD i []) with
    | true =>
      simp only [List.filter_cons, h, Bool.true_and, List.filter_nil, if_true, List.length_singleton]
      rw [Bool.eq_iff_iff]
      simp only [Bool.or_eq_true, decide_eq_true_eq]
      omega
    | false =>
      have h2 : evF1 (vf x) (fs[i]?.getD []) = false := by rw [← List.getD_eq_getElem?_getD]; exact h
      simp [h2]
theorem dubV_all (m : Mo) (f : List Int) (fs : List (List Int)) : dubV m f fs fs.length 0 = frstV m f fs 3 := by
  unfold dubV frstV
  congr 1
  funext x
  have h := dubB_all fs x fs.length (Nat.le_refl _)
  rw [List.take_length] at h
  show _ = (evF1 (vf x) f && decide (1 < cntV fs x))
  rw [h]
  simp
/-- The weights with which the program looks for a variant that lacks a wire. -/
theorem lack_sum (x : List Bool) : ∀ (fs : List (List Int)), fsum (vf x) fs (List.replicate fs.length (-1)) = -(cntV fs x : Int)
  | [] => rfl
  | g :: fs => by
    have ih := lack_sum x fs
    show (if evF1 (vf x) g then (-1 : Int) else 0) + fsum (vf x) fs (List.replicate fs.length (-1)) = _
    rw [ih]
    unfold cntV
    cases h : evF1 (vf x) g <;> simp [h] <;> omega
def lackW (fs : List (List Int)) : List Int := ((fs.length + 1 : Nat) : Int) :: List.replicate fs.length (-1)
theorem lack_val {m : Mo} {f : List Int} {fs : List (List Int)} {x : List Bool} (hx : x ∈ allM m) : valF m (f :: fs) (lackW fs) x = (if evF1 (vf x) f then ((fs.length + 1 : Nat) : Int) else 0) - (cntV fs x : Int) := by
  have h1 : allF (vf x) m.rules = true := (List.mem_filter.1 hx).2
  unfold valF
  rw [if_pos h1]
  show (if evF1 (vf x) f then ((fs.length + 1 : Nat) : Int) else 0) + fsum (vf x) fs (List.replicate fs.length (-1)) = _
  rw [lack_sum]
  omega
theorem lack_top {m : Mo} {f : List Int} {fs : List (List Int)} {x : List Bool} (hx : x ∈ allM m) : valF m (f :: fs) (lackW fs) x ≤ ((fs.length + 1 : Nat) : Int) ∧ (valF m (f :: fs) (lackW fs) x = ((fs.length + 1 : Nat) : Int) ↔ defB 1 (evF1 (vf x) f) (cntV fs x) = true) := by
  rw [lack_val hx]
  have h1 : defB 1 (evF1 (vf x) f) (cntV fs x) = (evF1 (vf x) f && decide (cntV fs x = 0)) := rfl
  rw [h1]
  cases evF1 (vf x) f with
  | true => simp; omega
  | false => simp; omega
theorem find_congr6 {p q : List Bool → Bool} : ∀ (L : List (List Bool)), (∀ x ∈ L, p x = q x) → L.find? p = L.find? q
  | [], _ => rfl
  | a :: t, h => by
    rw [List.find?_cons, List.find?_cons, h a (by simp), find_congr6 t fun x hx => h x (by simp [hx])]
theorem find_filter6 (p q : List Bool → Bool) : ∀ (L : List (List Bool)), (L.filter p).find? q = L.find? fun x => p x && q x
  | [] => rfl
  | a :: t => by
    rw [List.filter_cons, List.find?_cons]
    cases hp : p a with
    | true =>
      rw [if_pos rfl, List.find?_cons]
      simp [find_filter6 p q t]
    | false =>
      rw [if_neg (by simp)]
      simp [find_filter6 p q t]
/-- What the greatest sum says. -/
theorem lack_law {m : Mo} {f : List Int} {fs : List (List Int)} {x : List Bool} (hl : fs.length ≤ 1000) (hx : (exts m.opts.length []).find? (fun y => valF m (f :: fs) (lackW fs) y == bestF m (f :: fs) (lackW fs)) = some x) :
    (((fs.length + 1 : Nat) : Int) ≤ bestF m (f :: fs) (lackW fs) → frstV m f fs 1 = some x) ∧ (bestF m (f :: fs) (lackW fs) < ((fs.length + 1 : Nat) : Int) → frstV m f fs 1 = none) := by
  have hmx := List.mem_of_find?_eq_some hx
  have hvx := List.find?_some hx
  simp only [beq_iff_eq] at hvx
  have hbest : ∀ y, y ∈ exts m.opts.length [] → valF m (f :: fs) (lackW fs) y ≤ bestF m (f :: fs) (lackW fs) := fun y hy => maxL_mem _ _ (List.mem_map_of_mem hy)
  constructor
  · intro h
    have hin : x ∈ allM m := by
      refine List.mem_filter.2 ⟨hmx, ?_⟩
      cases ha : allF (vf x) m.rules with
      | true => rfl
      | false =>
        unfold valF at hvx
        rw [ha, if_neg (by simp)] at hvx
        rw [← hvx] at h
        unfold leastI at h
        omega
    have htop := (lack_top (f := f) (fs := fs) hin).1
    rw [← hx]
    unfold frstV allM
    rw [find_filter6]
    refine find_congr6 _ fun y hy => ?_
    cases ha : allF (vf y) m.rules with
    | true =>
      have hyi : y ∈ allM m := List.mem_filter.2 ⟨hy, ha⟩
      have h2 := lack_top (f := f) (fs := fs) hyi
      rw [Bool.true_and, Bool.eq_iff_iff, ← h2.2, beq_iff_eq]
      omega
    | false =>
      have h3 : valF m (f :: fs) (lackW fs) y = leastI := by unfold valF; rw [ha]; rfl
      rw [h3, Bool.false_and]
      symm
      rw [beq_eq_false_iff_ne]
      unfold leastI
      omega
  · intro h
    unfold frstV
    rw [List.find?_eq_none]
    intro y hy hd
    have h2 := lack_top (f := f) (fs := fs) hy
    have h3 := hbest y (List.mem_filter.1 hy).1
    have h4 := h2.2.2 hd
    omega
end Go.Proofs.YtehadoecnmfeoaaGreat
/- The wires through a run; the example of the laws: plain. -/
namespace Go.Proofs.YtehadoecnmfeoaaGreat
set_option linter.unusedVariables false
set_option linter.unusedSimpArgs false
set_option linter.unusedSectionVars false
/-- The spots of a wire's plugs. -/
def endF (l : Lo) (i : Nat) : Nat := (l.ps.getD (l.ws.getD i Wi.o).fp.toNat Pl.o).spot.toNat
def endT (l : Lo) (i : Nat) : Nat := (l.ps.getD (l.ws.getD i Wi.o).tp.toNat Pl.o).spot.toNat
def sideL (l : Lo) (run : Nat) : List Nat := stR l.rs run (l.rs.getD run (0, 0)).1 l.ss.length
def thruB (l : Lo) (run i : Nat) : Bool := decide (endF l i ∈ sideL l run) != decide (endT l i ∈ sideL l run)
def thruL (l : Lo) (run : Nat) : List Nat := (List.range l.ws.length).filter (thruB l run)
def runLen (l : Lo) (k : Nat) : Int := (l.us.getD k Ru.o).len
section
variable {l : Lo} (h : LoOk l)
include h
theorem LoOk.wi {i : Nat} (hi : i < l.ws.length) : wiOk l i = true ∧ validF l.m.opts.length (l.ws.getD i Wi.o).form = true := by
  have h1 := h.ws i hi
  unfold wiErr at h1
  by_cases h2 : wiOk l i = false
  · rw [if_pos h2] at h1; omega
  · rw [if_neg h2] at h1
    by_cases h3 : validF l.m.opts.length (l.ws.getD i Wi.o).form = false
    · rw [if_pos h3] at h1; omega
    · exact ⟨by simpa using h2, by simpa using h3⟩
theorem LoOk.pin {p c : Int} (hp : pinOk l p c = true) : 0 ≤ p ∧ p.toNat < l.ps.length ∧ 0 ≤ (l.ps.getD p.toNat Pl.o).spot ∧ (l.ps.getD p.toNat Pl.o).spot.toNat < l.ss.length := by
  unfold pinOk at hp
  simp only [Bool.and_eq_true, btw_iff] at hp
  obtain ⟨⟨h1, h2⟩, _⟩ := hp
  have h3 := h.ps p.toNat (by omega)
  unfold plOk at h3
  simp only [Bool.and_eq_true, btw_iff] at h3
  obtain ⟨⟨_, h4, h5⟩, _⟩ := h3
  exact ⟨h1, by omega, h4, by omega⟩
theorem LoOk.ends {i : Nat} (hi : i < l.ws.length) : endF l i < l.ss.length ∧ endT l i < l.ss.length := by
  have h1 := (h.wi hi).1
  unfold wiOk at h1
  simp only [Bool.and_eq_true] at h1
  obtain ⟨⟨⟨⟨_, h2⟩, h3⟩, _⟩, _⟩ := h1
  exact ⟨(h.pin h2).2.2.2, (h.pin h3).2.2.2⟩
theorem LoOk.len {k : Nat} (hk : k < l.us.length) : 1 ≤ runLen l k ∧ runLen l k ≤ 1000000 := by
  have h1 := h.us (l.us.getD k Ru.o) (by rw [List.getD_eq_getElem?_getD, List.getElem?_eq_getElem hk]; exact List.getElem_mem hk)
  unfold Ru.ok at h1
  simp only [Bool.and_eq_true, btw_iff] at h1
  obtain ⟨⟨⟨_, h2⟩, _⟩, _⟩ := h1
  exact h2
/-- A wire goes through a run exactly if the run parts its ends. -/
theorem LoOk.thru {run i : Nat} (hr : run < l.us.length) (hi : i < l.ws.length) : thruB l run i = true ↔ ¬ Rch l.rs run (endF l i) (endT l i) := by
  have hrl : run < l.rs.length := by rw [rs_len]; exact hr
  obtain ⟨a, b, hab⟩ : ∃ a b, l.rs.getD run (0, 0) = (a, b) := ⟨_, _, rfl⟩
  have he := h.ends hi
  have hlt := h.tree.lt run hrl
  unfold thruB sideL
  rw [hab] at hlt ⊢
  exact h.tree.side_list hrl (.inl hab) he.1 he.2 (stR_ends hlt.1 h.tree.lt)
/-- .. and that is: if it is on its way. -/
theorem LoOk.way {run i : Nat} (hr : run < l.us.length) (hi : i < l.ws.length) {w : Int} {P : List Nat} (hP : WayP l.rs w (endF l i) P (endT l i)) : run ∈ P ↔ thruB l run i = true := by
  rw [h.thru hr hi]
  exact (hP.mem h.tree).2 run (by rw [rs_len]; exact hr)
end
end Go.Proofs.YtehadoecnmfeoaaGreat
/- Modules: their check, what is picked, an audit; plain laws. -/
namespace Go.Proofs.YtehadoecnmfeoaaGreat
set_option linter.unusedVariables false
/-- Wire k of a module: one of n, behind the one before it. -/
def wireOk (n : Nat) (ws : List Int) (k : Nat) : Bool := btw (ws.getD k 0) 0 ((n : Int) - 1) && (decide (k = 0) || decide (ws.getD (k - 1) 0 < ws.getD k 0))
def wiresB (n : Nat) (ws : List Int) : Bool := (List.range ws.length).all (wireOk n ws)
def rightB (l : Lo) (d : Md) : Bool := wiresB l.ws.length d.ws && validF l.m.opts.length d.f
/-- What Check answers. -/
def bldE (l : Lo) (ms : List Md) : Int := if l.err ≠ 0 then l.err else if (decide (60 < ms.length) || !ms.all (rightB l)) = true then 120 else 0
structure BldOkM (l : Lo) (ms : List Md) : Prop where
  lo : LoOk l
  err : l.err = 0
  n : ms.length ≤ 60
  ok : ∀ d ∈ ms, rightB l d = true
theorem bldE_ok {l : Lo} {ms : List Md} (h : bldE l ms = 0) : BldOkM l ms := by
  unfold bldE at h
  by_cases h1 : l.err = 0
  · rw [if_neg (by simp [h1])] at h
    by_cases h2 : (decide (60 < ms.length) || !ms.all (rightB l)) = true
    · rw [if_pos h2] at h; omega
    · simp only [Bool.or_eq_true, decide_eq_true_eq, Bool.not_eq_true', not_or, Bool.not_eq_false] at h2
      exact ⟨Lo.err_ok h1, h1, by omega, List.all_eq_true.1 h2.2⟩
  · rw [if_pos h1] at h
    exact absurd h h1
theorem bldE_err {l : Lo} {ms : List Md} (h : l.err ≠ 0) : bldE l ms = l.err := by unfold bldE; rw [if_pos h]
theorem wires_at {n : Nat} {ws : List Int} (h : wiresB n ws = true) {k : Nat} (hk : k < ws.length) : 0 ≤ ws.getD k 0 ∧ ws.getD k 0 < (n : Int) ∧ (0 < k → ws.getD (k - 1) 0 < ws.getD k 0) := by
  have h1 := List.all_eq_true.1 h k (by simpa using hk)
  unfold wireOk at h1
  simp only [Bool.and_eq_true, btw_iff, Bool.or_eq_true, decide_eq_true_eq] at h1
  exact ⟨by omega, by omega, by omega⟩
/-- How often a wire is in a module. -/
def occ (d : Md) (w : Nat) : Nat := (d.ws.filter fun x => x == (w : Int)).length
/-- What is picked for a variant; how often a wire is in it. -/
def pckB (x : List Bool) (d : Md) : Bool := evF1 (vf x) d.f
def manyN (ms : List Md) (x : List Bool) (w : Nat) : Nat := ((ms.filter (pckB x)).map fun d => occ d w).sum
/-- The first kind of defect of a wire. -/
def audK (m : Mo) (f : List Int) (fs : List (List Int)) : Nat → Option (Nat × List Bool)
  | 0 => none
  | k + 1 => match audK m f fs k with
    | some r => some r
    | none => (frstV m f fs (k + 1)).map fun x => (k + 1, x)
/-- The first defect of the first wires. -/
def audN (l : Lo) (ms : List Md) : Nat → Option (Nat × Nat × List Bool)
  | 0 => none
  | n + 1 => match audN l ms n with
    | some r => some r
    | none => (audK l.m (l.ws.getD n Wi.o).form (withL ms n) 3).map fun r => (n, r.1, r.2)
def audA (l : Lo) (ms : List Md) : Option (Nat × Nat × List Bool) := if bldE l ms = 0 then audN l ms l.ws.length else none
theorem audN_stays {l : Lo} {ms : List Md} {k n : Nat} {r : Nat × Nat × List Bool} (h : audN l ms k = some r) (hn : k ≤ n) : audN l ms n = some r := by
  induction n with
  | zero => rw [show k = 0 by omega] at h; exact h
  | succ n ih =>
    rcases Nat.lt_or_ge k (n + 1) with h1 | h1
    · show (match audN l ms n with | some r => some r | none => _) = _
      rw [ih (by omega)]
    · rw [show k = n + 1 by omega] at h; exact h
theorem audN_next {l : Lo} {ms : List Md} {k : Nat} (h : audN l ms k = none) : audN l ms (k + 1) = (audK l.m (l.ws.getD k Wi.o).form (withL ms k) 3).map fun r => (k, r.1, r.2) := by
  show (match audN l ms k with | some r => some r | none => _) = _
  rw [h]
theorem audK_stays {m : Mo} {f : List Int} {fs : List (List Int)} {k n : Nat} {r : Nat × List Bool} (h : audK m f fs k = some r) (hn : k ≤ n) : audK m f fs n = some r := by
  induction n with
  | zero => rw [show k = 0 by omega] at h; exact h
  | succ n ih =>
    rcases Nat.lt_or_ge k (n + 1) with h1 | h1
    · show (match audK m f fs n with | some r => some r | none => _) = _
      rw [ih (by omega)]
    · rw [show k = n + 1 by omega] at h; exact h
theorem audK_next {m : Mo} {f : List Int} {fs : List (List Int)} {k : Nat} (h : audK m f fs k = none) : audK m f fs (k + 1) = (frstV m f fs (k + 1)).map fun x => (k + 1, x) := by
  show (match audK m f fs k with | some r => some r | none => _) = _
  rw [h]
/-- Without a buildable variant there is no defect. -/
theorem audN_none {l : Lo} {ms : List Md} (h : allM l.m = []) : ∀ n, audN l ms n = none
  | 0 => rfl
  | n + 1 => by
    have hf : ∀ f fs k, frstV l.m f fs k = none := fun f fs k => by unfold frstV; rw [h]; rfl
    have hk : ∀ f fs k, audK l.m f fs k = none := by
      intro f fs k
      induction k with
      | zero => rfl
      | succ k ih => rw [audK_next ih, hf]; rfl
    rw [audN_next (audN_none h n), hk]
    rfl
end Go.Proofs.YtehadoecnmfeoaaGreat
/- Modules in memory. -/
namespace Go.Proofs.YtehadoecnmfeoaaGreat
open Go.Joins Go.ChangeShapes Go.WideShapes Go.ChangeAt Go.RowKit Go.Deep
set_option maxRecDepth 100000
set_option linter.unusedVariables false
set_option linter.unusedSimpArgs false
def mdC (fv gv : Value) (j : Nat) : Value :=
  match j with
  | 0 => fv
  | _ => gv
/-- A list of modules. -/
def Mods (w : World) (B : Nat) (v : Value) (l : List Md) : Prop := ∃ fv gv : Nat → Value, Sl w B 2 v l.length (fun i j => mdC (fv i) (gv i) j) ∧ ∀ i, i < l.length → Ints w B (fv i) (l.getD i Md.o).f ∧ Ints w B (gv i) (l.getD i Md.o).ws
structure SizedD (l : List Md) : Prop where
  n : l.length ≤ maxLen
  f : ∀ x ∈ l, x.f.length ≤ maxLen ∧ x.ws.length ≤ maxLen
section
variable {w w' : World} {B B' : Nat} {v : Value} {l : List Md}
theorem Mods.below (h : Mods w B v l) (hb : Below B w w') : Mods w' B v l := by
  obtain ⟨fv, gv, h1, h2⟩ := h
  exact ⟨fv, gv, Sl.below h1 hb, fun i hi => ⟨(h2 i hi).1.below hb, (h2 i hi).2.below hb⟩⟩
theorem Mods.more (h : Mods w B v l) (hB : B ≤ B') : Mods w B' v l := by
  obtain ⟨fv, gv, h1, h2⟩ := h
  exact ⟨fv, gv, Sl.more h1 hB, fun i hi => ⟨(h2 i hi).1.more hB, (h2 i hi).2.more hB⟩⟩
theorem Mods.up (h : Mods w w.heap.size v l) (hb : Below w.heap.size w w') : Mods w' w'.heap.size v l := (h.below hb).more hb.size
theorem Mods.form (h : Mods w B v l) : ∃ A q, v = .slice A l.length q := by
  obtain ⟨fv, gv, h1, _⟩ := h
  exact Sl.form h1
theorem Mods.nil (w : World) (B : Nat) : Mods w B (.slice none 0 0) [] := ⟨fun _ => undef, fun _ => undef, Sl.nil _ _ _ _, fun i hi => absurd hi (by simp)⟩
/-- One module. -/
theorem Mods.at {A : Option Addr} {n q : Nat} (h : Mods w B (.slice A n q) l) {k : Nat} (hk : k < l.length) : ∃ b off d Af qf Aw qw, Hid (l.getD k Md.o = d) ∧ A = some ⟨b, off, none⟩ ∧ b < B ∧ l.length ≤ q ∧ Hid (Ints w B (.slice Af d.f.length qf) d.f) ∧ Hid (Ints w B (.slice Aw d.ws.length qw) d.ws) ∧
    w.cell? ⟨b, off + k * 2, none⟩ = some (.slice Af d.f.length qf) ∧ w.cell? ⟨b, off + k * 2 + 1, none⟩ = some (.slice Aw d.ws.length qw) := by
  obtain ⟨fv, gv, hs, hf⟩ := h
  obtain ⟨h1, h2, b, off, h3, h4, h5⟩ := sl_at hs hk
  obtain ⟨h6, h7⟩ := hf k hk
  obtain ⟨Af, qf, e⟩ := Sl.form h6
  obtain ⟨Aw, qw, e2⟩ := Sl.form h7
  rw [e] at h6
  rw [e2] at h7
  have c0 := h5 0 (by omega)
  have c1 := h5 1 (by omega)
  rw [show mdC (fv k) (gv k) 0 = fv k from rfl, e] at c0
  rw [show mdC (fv k) (gv k) 1 = gv k from rfl, e2] at c1
  exact ⟨b, off, _, Af, qf, Aw, qw, rfl, h3, h4, by omega, h6, h7, c0, c1⟩
end
section
variable {H : Type} {enc : TypeId × Value → H} {W : World} {base b0 : Nat} {r : Reach} {spare : Nat → Bool} {held : Bool} {v : Value} {d : DataW H} {p : List MemPlace}
theorem cellsIs : Tryz.prog.cellsOf 45 = 1 := by kernel_rfl
theorem cellsMd : Tryz.prog.cellsOf 48 = 2 := by kernel_rfl
theorem mods_cell {n : Nat} {c : Value} {y : DataW H × List MemPlace} (h : DataW.trod enc Tryz.prog W base spare held n 32 [c] = some y) :
    ∃ l : List Md, Mods W W.heap.size c l ∧ SizedD l := by
  obtain ⟨xs, hsl, hl, hR⟩ := open_rows (α := Md × Value × Value) (Md.o, .slice none 0 0, .slice none 0 0) (fun x j => mdC x.2.1 x.2.2 j) (fun x => (Ints W W.heap.size x.2.1 x.1.f ∧ Ints W W.heap.size x.2.2 x.1.ws) ∧ x.1.f.length ≤ maxLen ∧ x.1.ws.length ≤ maxLen) Tryz.underlying32 cellsMd (by omega) (by
    intro n cs' y hlen ht
    match cs', hlen with
    | [c0, c1], _ =>
      obtain ⟨xs, n', _, _, _, hlen, hf⟩ := DataW.trod_struct Tryz.underlying48 ht
      have g0 := hf 0 _ rfl
      have g1 := hf 1 _ rfl
      match xs, hlen with
      | [y0, y1], _ =>
        obtain ⟨f, hf, hfl, _⟩ := ints_cell (y := y0) Tryz.underlying46 (by simpa [cellsFo] using g0)
        obtain ⟨g, hg, hgl, _⟩ := ints_cell (y := y1) Tryz.underlying45 (by simpa [cellsFo, cellsIs] using g1)
        refine ⟨(⟨f, g⟩, c0, c1), fun j hj => ?_, ⟨hf, hg⟩, hfl, hgl⟩
        match j, hj with
        | 0, _ => rfl
        | 1, _ => rfl) h
  have hg : ∀ i, i < xs.length → (xs.map (·.1)).getD i Md.o = (xs.getD i (Md.o, .slice none 0 0, .slice none 0 0)).1 := fun i hi => by simp [hi]
  refine ⟨xs.map (·.1), ⟨fun i => (xs.getD i (Md.o, .slice none 0 0, .slice none 0 0)).2.1, fun i => (xs.getD i (Md.o, .slice none 0 0, .slice none 0 0)).2.2, ?_, fun i hi => ?_⟩, ⟨by simpa using hl, fun x hx => ?_⟩⟩
  · rw [List.length_map]
    exact hsl
  · rw [List.length_map] at hi
    rw [hg i hi]
    exact (hR i hi).1
  · obtain ⟨u, hu, rfl⟩ := List.mem_map.1 hx
    exact (all_of (R := fun x : Md × Value × Value => (Ints W W.heap.size x.2.1 x.1.f ∧ Ints W W.heap.size x.2.2 x.1.ws) ∧ x.1.f.length ≤ maxLen ∧ x.1.ws.length ≤ maxLen) hR u hu).2
theorem open_mods (hv : Value.okWide Tryz.prog W r b0 32 v) (h : DataW.Trod enc Tryz.prog W base spare held 32 v d p) : ∃ l : List Md, Mods W W.heap.size v l ∧ SizedD l := by
  obtain ⟨a0, len, cap, rfl⟩ := okWide_slice Tryz.underlying32 hv
  obtain ⟨fuel, hf⟩ := h
  exact mods_cell hf
end
end Go.Proofs.YtehadoecnmfeoaaGreat
/- What is picked and made: plain laws. -/
namespace Go.Proofs.YtehadoecnmfeoaaGreat
set_option linter.unusedVariables false
set_option linter.unusedSimpArgs false
/-- The modules that are picked, the first k of them looked at. -/
def pckK (ms : List Md) (x : List Bool) (k : Nat) : List Nat := (List.range k).filter fun i => pckB x (ms.getD i Md.o)
def pckL (ms : List Md) (x : List Bool) : List Nat := pckK ms x ms.length
theorem pckK_succ (ms : List Md) (x : List Bool) (k : Nat) : pckK ms x (k + 1) = if pckB x (ms.getD k Md.o) then pckK ms x k ++ [k] else pckK ms x k := by
  unfold pckK
  rw [List.range_succ, List.filter_append]
  rw [List.filter_cons]
  cases h : pckB x (ms.getD k Md.o) with
  | true => rfl
  | false => rw [if_neg (by simp), if_neg (by simp)]; exact List.append_nil _
theorem pckK_le (ms : List Md) (x : List Bool) (k : Nat) : (pckK ms x k).length ≤ k := by
  unfold pckK
  have := List.length_filter_le (fun i => pckB x (ms.getD i Md.o)) (List.range k)
  rwa [List.length_range] at this
theorem pckL_lt {ms : List Md} {x : List Bool} {i : Nat} (h : i ∈ pckL ms x) : i < ms.length ∧ pckB x (ms.getD i Md.o) = true := by
  unfold pckL pckK at h
  simpa using h
/-- The wires of some modules. -/
def wsI (ms : List Md) (L : List Nat) : List Int := L.flatMap fun i => (ms.getD i Md.o).ws
def wsP (ms : List Md) (x : List Bool) : List Int := wsI ms (pckL ms x)
/-- Each wire as often as it is picked. -/
def madeN (n : Nat) (ms : List Md) (x : List Bool) : List Nat := (List.range n).flatMap fun w => List.replicate (manyN ms x w) w
end Go.Proofs.YtehadoecnmfeoaaGreat
/- The first defect is a defect, and no other comes before it: plain laws. -/
namespace Go.Proofs.YtehadoecnmfeoaaGreat
set_option linter.unusedVariables false
set_option linter.unusedSimpArgs false
/-- The kind of defect that a wire has: by whether it belongs to the variant, and how often it is made. -/
def kndB (is : Bool) (n : Nat) : Nat := if is = true ∧ n = 0 then 1 else if is = false ∧ 0 < n then 2 else if 1 < n then 3 else 0
def kndN (l : Lo) (ms : List Md) (x : List Bool) (w : Nat) : Nat := kndB (evF1 (vf x) (l.ws.getD w Wi.o).form) (manyN ms x w)
end Go.Proofs.YtehadoecnmfeoaaGreat

/- Part 12 of this claim's texts: walks and plain laws. -/
import Derived.Test.YtehadoecnmfeoaaGreatRows
import Derived.Test.YtehadoecnmfeoaaGreatGBT11
/- Whether formulas can be met; whether one implies another: walks. -/
namespace Go.Proofs.YtehadoecnmfeoaaGreat
open Go.RowKit
set_option linter.unusedVariables false
set_option linter.unusedSimpArgs false
theorem all_beg {m : Mo} {w w1 w2 : World} {F F1 : Fo} {n k : Nat} {l : List (List Int)} {lv : Value} (h : BegR m w w1 F n) (hN : m.opts.length ≤ 12) (r : OpR k w1 F w2 F1) (hl : l.length ≤ 200) (hk : k + 102 * l.length ≤ 200000) (hf : Forms w w.heap.size lv l) (hv : ∀ f ∈ l, validF m.opts.length f = true) :
    Calls Tryz.prog 121 #[.pointer (some ⟨F.p, 0, none⟩), lv] w2
      fun e w' => ∃ g F', e = .returned (.int .i64 (g : Nat)) ∧ OpR (k + 102 * l.length) w1 F w' F' ∧ OpR (102 * l.length) w2 F1 w' F' ∧ g < F'.ks.length ∧ ∀ v, ev F'.ks v g = allF v l := by
  have hc := all_any F1 l lv w2 r.st.here (by rw [r.st.ba]; exact Nat.le_trans h.base2 r.st.keep.size) (by rw [r.st.N, h.N]; exact hv) (by
    rw [r.st.ba]
    exact (hf.below (r.low h)).more h.base) (by omega) ((h.room hN (k := k + 102 * l.length) hk |>.step r))
  rw [r.st.p] at hc
  refine hc.mono ?_
  rintro e w' ⟨g, F', rfl, r1, r2, r3⟩
  exact ⟨g, F', rfl, r.trans r1, r1, r2, r3⟩
theorem not_beg {m : Mo} {w w1 w2 : World} {F F1 : Fo} {n k x : Nat} (h : BegR m w w1 F n) (hN : m.opts.length ≤ 12) (r : OpR k w1 F w2 F1) (hk : k + 1 ≤ 200000) (hx : x < F1.ks.length) :
    Calls Tryz.prog 198 #[.pointer (some ⟨F.p, 0, none⟩), .int .i64 x] w2
      fun e w' => ∃ g F', e = .returned (.int .i64 (g : Nat)) ∧ OpR (k + 1) w1 F w' F' ∧ OpR 1 w2 F1 w' F' ∧ g < F'.ks.length ∧ ∀ v, ev F'.ks v g = !ev F1.ks v x := by
  have hc := not_any F1 x w2 r.st.here hx ((h.room hN (k := k + 1) hk |>.step r))
  rw [r.st.p] at hc
  refine hc.mono ?_
  rintro e w' ⟨g, F', rfl, r1, r2, r3⟩
  exact ⟨g, F', rfl, r.trans r1, r1, r2, r3⟩
/-- A variant (or none), whether so, and an error. -/
def MeeP (x : List Bool) (is : Bool) (er : Int) (w : World) (e : Ending) (w' : World) : Prop := ∃ v, e = .returned (.tuple #[v, .bool is, .int .i64 er]) ∧ Bols w' w'.heap.size v x ∧ Below w.heap.size w w'
/-- What Meets returns. -/
def meeL (m : Mo) (l : List (List Int)) : List (List Bool) := satM m fun v => allF v l
def meeX (m : Mo) (l : List (List Int)) : List Bool := if frmE m l = 0 then (meeL m l).head?.getD [] else []
def meeB (m : Mo) (l : List (List Int)) : Bool := if frmE m l = 0 then !(meeL m l).isEmpty else false
/-- What Implies returns. -/
def impL (m : Mo) (f g : List Int) : List (List Bool) := satM m fun v => evF1 v f && !evF1 v g
def impX (m : Mo) (f g : List Int) : List Bool := if m.errF [f, g] = 0 then (impL m f g).head?.getD [] else []
def impB (m : Mo) (f g : List Int) : Bool := if m.errF [f, g] = 0 then (impL m f g).isEmpty else false
theorem FirR.bols {F : Fo} {b : Nat} {w' : World} {x : List Bool} (hV : VarAt w' b F.N x) (hx : x.length = F.N) : Bols w' w'.heap.size (.slice (some ⟨b, 0, none⟩) F.N F.N) x := by
  have h1 := VarAt.bols (w := w') (b := b) (l := x) (by rw [hx]; exact hV)
  rw [hx] at h1
  exact h1
/-- first, in one: the variant that it gives. -/
def FstP (F : Fo) (n : Nat) (w : World) (e : Ending) (w' : World) : Prop := ∃ v, e = .returned v ∧ Bols w' w'.heap.size v ((sat F.ks F.N n []).head?.getD []) ∧ Below w.heap.size w w'
/-- Whether a node is no. -/
theorem node_no {F : Fo} {w : World} {n : Nat} (h : FoAt w F) (hn : n < F.ks.length) : decide (n = 0) = (sat F.ks F.N n []).isEmpty := by
  by_cases h0 : n = 0
  · rw [h0, sat_zero]; rfl
  · have h1 := sat_ne h.wf hn h0 (l := []) (Nat.zero_le _)
    rw [decide_eq_false h0]
    match sat F.ks F.N n [], h1 with
    | a :: r, _ => rfl
theorem forms_two {w : World} {b B : Nat} {fv gv : Value} {f g : List Int} {t : Nat} (hb : w.heap[b]? = some (.cells #[fv, gv] t (0, 0))) (hB : b < B) (h : Ints w B fv f) (h2 : Ints w B gv g) : Forms w B (.slice (some ⟨b, 0, none⟩) 2 2) [f, g] :=
  ⟨fun i => if i = 0 then fv else gv, ⟨_, b, 0, 2, rfl, Nat.le_refl _, .inl ⟨rfl, hB⟩, fun i j hi hj => by
    simp at hi
    obtain rfl : j = 0 := by omega
    rcases (by omega : i = 0 ∨ i = 1) with rfl | rfl
    · exact cellOf hb 0
    · exact cellOf hb 1⟩, fun i hi => by
    simp at hi
    rcases (by omega : i = 0 ∨ i = 1) with rfl | rfl
    · exact h
    · exact h2⟩
theorem sized_two {f g : List Int} (h : f.length ≤ maxLen) (h2 : g.length ≤ maxLen) : Sized [f, g] := ⟨by unfold maxLen; simp, fun x hg => by simp at hg; rcases hg with rfl | rfl <;> assumption⟩
end Go.Proofs.YtehadoecnmfeoaaGreat
/- The greatest sum as the elder program has it: walk. -/
namespace Go.Proofs.YtehadoecnmfeoaaGreat
open Go.RowKit
set_option linter.unusedVariables false
set_option linter.unusedSimpArgs false
/-- Whether weights are in their range. -/
def wOk (ws : List Int) : Bool := ws.all fun x => decide (-1000000 ≤ x) && decide (x ≤ 1000000)
/-- What Most returns. -/
def mosE (m : Mo) (l : List (List Int)) (ws : List Int) : Int := if frmE m l ≠ 0 then frmE m l else if ws.length ≠ l.length ∨ wOk ws = false then 1 else if allM m = [] then 12 else 0
def mosN (m : Mo) (l : List (List Int)) (ws : List Int) : Int := if mosE m l ws = 0 then bestF m l ws else 0
def mosX (m : Mo) (l : List (List Int)) (ws : List Int) : List Bool := if mosE m l ws = 0 then ((exts m.opts.length []).find? (fun y => valF m l ws y == bestF m l ws)).getD [] else []
def MosP (n : Int) (x : List Bool) (er : Int) (w : World) (e : Ending) (w' : World) : Prop := ∃ v, e = .returned (.tuple #[.int .i64 n, v, .int .i64 er]) ∧ Bols w' w'.heap.size v x ∧ Below w.heap.size w w'
end Go.Proofs.YtehadoecnmfeoaaGreat
/- The greatest sum, with its errors: walk. -/
namespace Go.Proofs.YtehadoecnmfeoaaGreat
open Go.RowKit
set_option linter.unusedVariables false
set_option linter.unusedSimpArgs false
end Go.Proofs.YtehadoecnmfeoaaGreat
/- What an audit finds: plain laws. -/
namespace Go.Proofs.YtehadoecnmfeoaaGreat
set_option linter.unusedVariables false
/-- A module: its formula and its wires. -/
structure Md where
  f : List Int
  ws : List Int
def Md.o : Md := ⟨[], []⟩
def mdIn (w : Nat) (d : Md) : Bool := d.ws.contains (w : Int)
/-- The formulas of the modules that have a wire. -/
def withL (ms : List Md) (w : Nat) : List (List Int) := (ms.filter (mdIn w)).map Md.f
/-- How many formulas hold. -/
def cntV (fs : List (List Int)) (x : List Bool) : Nat := (fs.filter fun g => evF1 (vf x) g).length
/-- The three kinds of defects: 1 lacks, 2 extra, 3 double. -/
def defB (kind : Nat) (is : Bool) (n : Nat) : Bool :=
  match kind with
  | 1 => is && decide (n = 0)
  | 2 => !is && decide (0 < n)
  | _ => is && decide (1 < n)
def frstV (m : Mo) (f : List Int) (fs : List (List Int)) (kind : Nat) : Option (List Bool) := (allM m).find? fun x => defB kind (evF1 (vf x) f) (cntV fs x)
/-- The sooner one of two. -/
def soon (a b : Option (List Bool)) : Option (List Bool) :=
  match a, b with
  | none, y => y
  | some x, none => some x
  | some x, some y => if befB y x then some y else some x
theorem find_or (P q : List Bool → Bool) : ∀ (L : List (List Bool)), L.Pairwise (fun x y => befB x y = true) → L.find? (fun x => P x || q x) = soon (L.find? P) (L.find? q)
  | [], _ => rfl
  | a :: t, hs => by
    obtain ⟨ha, ht⟩ := List.pairwise_cons.1 hs
    have ih := find_or P q t ht
    rw [List.find?_cons, List.find?_cons, List.find?_cons]
    cases hP : P a with
    | true =>
      simp only [Bool.true_or]
      cases hq : q a with
      | true => simp [soon, befB_self]
      | false =>
        simp only
        cases hy : t.find? q with
        | none => rfl
        | some y =>
          have := befB_asym a y (ha y (List.mem_of_find?_eq_some hy))
          simp [soon, this]
    | false =>
      cases hq : q a with
      | true =>
        simp only [Bool.or_true]
        cases hx : t.find? P with
        | none => rfl
        | some x =>
          have := ha x (List.mem_of_find?_eq_some hx)
          simp [soon, this]
      | false =>
        simp only [Bool.or_false]
        exact ih
theorem head_find {L : List (List Bool)} (p : List Bool → Bool) : (L.filter p).head? = L.find? p := by
  induction L with
  | nil => rfl
  | cons a t ih =>
    rw [List.filter_cons, List.find?_cons]
    cases h : p a with
    | true => simp
    | false =>
      simp only [Bool.false_eq_true, if_false]
      exact ih
theorem cntV_pos {fs : List (List Int)} {x : List Bool} : decide (0 < cntV fs x) = fs.any fun g => evF1 (vf x) g := by
  unfold cntV
  rw [Bool.eq_iff_iff, decide_eq_true_eq, List.length_pos_iff, List.any_eq_true]
  constructor
  · intro h
    obtain ⟨g, hg⟩ := List.exists_mem_of_ne_nil _ h
    exact ⟨g, (List.mem_filter.1 hg).1, by simpa using (List.mem_filter.1 hg).2⟩
  · rintro ⟨g, hg, h⟩ h0
    have : g ∈ fs.filter fun g => evF1 (vf x) g := List.mem_filter.2 ⟨hg, by simpa using h⟩
    rw [h0] at this
    cases this
theorem take_step {fs : List (List Int)} {k : Nat} (hk : k < fs.length) : fs.take (k + 1) = fs.take k ++ [fs.getD k []] := by
  rw [List.take_add_one, List.getElem?_eq_getElem hk, List.getD_eq_getElem?_getD, List.getElem?_eq_getElem hk]
  rfl
/-- The program's search for a variant with too much: behind k formulas. -/
def xtrV (m : Mo) (f : List Int) (fs : List (List Int)) (k : Nat) : Option (List Bool) := (allM m).find? fun x => !evF1 (vf x) f && (fs.take k).any fun g => evF1 (vf x) g
theorem xtrV_zero (m : Mo) (f : List Int) (fs : List (List Int)) : xtrV m f fs 0 = none := by
  unfold xtrV
  rw [List.find?_eq_none]
  intro x _
  simp
theorem xtrV_step {m : Mo} {f : List Int} {fs : List (List Int)} {k : Nat} (hk : k < fs.length) : xtrV m f fs (k + 1) = soon (xtrV m f fs k) ((allM m).find? fun x => evF1 (vf x) (fs.getD k []) && !evF1 (vf x) f) := by
  unfold xtrV
  rw [← find_or _ _ _ (allM_sorted m), take_step hk]
  congr 1
  funext x
  rw [List.any_append]
  cases evF1 (vf x) f <;> simp
theorem xtrV_all (m : Mo) (f : List Int) (fs : List (List Int)) : xtrV m f fs fs.length = frstV m f fs 2 := by
  unfold xtrV frstV
  rw [List.take_length]
  congr 1
  funext x
  show _ = (!evF1 (vf x) f && decide (0 < cntV fs x))
  rw [cntV_pos]
/-- Two formulas of which the later one is before i. -/
def dubB (fs : List (List Int)) (x : List Bool) : Nat → Bool
  | 0 => false
  | i + 1 => dubB fs x i || (evF1 (vf x) (fs.getD i []) && (fs.take i).any fun g => evF1 (vf x) g)
def dubV (m : Mo) (f : List Int) (fs : List (List Int)) (i j : Nat) : Option (List Bool) := (allM m).find? fun x => evF1 (vf x) f && (dubB fs x i || (evF1 (vf x) (fs.getD i []) && (fs.take j).any fun g => evF1 (vf x) g))
theorem dubV_zero (m : Mo) (f : List Int) (fs : List (List Int)) : dubV m f fs 0 0 = none := by
  unfold dubV
  rw [List.find?_eq_none]
  intro x _
  simp [dubB]
theorem dubV_in {m : Mo} {f : List Int} {fs : List (List Int)} {i j : Nat} (hj : j < i) (hi : i < fs.length) : dubV m f fs i (j + 1) = soon (dubV m f fs i j) ((allM m).find? fun x => evF1 (vf x) f && (evF1 (vf x) (fs.getD i []) && evF1 (vf x) (fs.getD j []))) := by
  unfold dubV
  rw [← find_or _ _ _ (allM_sorted m), take_step (by omega)]
  congr 1
  funext x
  rw [List.any_append]
  cases evF1 (vf x) f <;> cases evF1 (vf x) (fs.getD i []) <;> simp [Bool.or_assoc]
theorem dubV_next (m : Mo) (f : List Int) (fs : List (List Int)) (i : Nat) : dubV m f fs i i = dubV m f fs (i + 1) 0 := by
  unfold dubV
  congr 1
  funext x
  simp [dubB]
theorem dubB_all (fs : List (List Int)) (x : List Bool) : ∀ i, i ≤ fs.length → dubB fs x i = decide (1 < cntV (fs.take i) x)
  | 0, _ => by simp [dubB, cntV]
  | i + 1, hi => by
    have ih := dubB_all fs x i (by omega)
    show (dubB fs x i || _) = _
    rw [ih, take_step (by omega), ← cntV_pos]
    unfold cntV
    rw [List.filter_append, List.length_append]
    cases h : evF1 (vf x) (fs.getD i []) with
    | true =>
      simp only [List.filter_cons, h, Bool.true_and, List.filter_nil, if_true, List.length_singleton]
      rw [Bool.eq_iff_iff]
      simp only [Bool.or_eq_true, decide_eq_true_eq]
      omega
    | false =>
      have h2 : evF1 (vf x) (fs[i]?.getD []) = false := by rw [← List.getD_eq_getElem?_getD]; exact h
      simp [h2]
theorem dubV_all (m : Mo) (f : List Int) (fs : List (List Int)) : dubV m f fs fs.length 0 = frstV m f fs 3 := by
  unfold dubV frstV
  congr 1
  funext x
  have h := dubB_all fs x fs.length (Nat.le_refl _)
  rw [List.take_length] at h
  show _ = (evF1 (vf x) f && decide (1 < cntV fs x))
  rw [h]
  simp
/-- The weights with which the program looks for a variant that lacks a wire. -/
theorem lack_sum (x : List Bool) : ∀ (fs : List (List Int)), fsum (vf x) fs (List.replicate fs.length (-1)) = -(cntV fs x : Int)
  | [] => rfl
  | g :: fs => by
    have ih := lack_sum x fs
    show (if evF1 (vf x) g then (-1 : Int) else 0) + fsum (vf x) fs (List.replicate fs.length (-1)) = _
    rw [ih]
    unfold cntV
    cases h : evF1 (vf x) g <;> simp [h] <;> omega
def lackW (fs : List (List Int)) : List Int := ((fs.length + 1 : Nat) : Int) :: List.replicate fs.length (-1)
theorem lack_val {m : Mo} {f : List Int} {fs : List (List Int)} {x : List Bool} (hx : x ∈ allM m) : valF m (f :: fs) (lackW fs) x = (if evF1 (vf x) f then ((fs.length + 1 : Nat) : Int) else 0) - (cntV fs x : Int) := by
  have h1 : allF (vf x) m.rules = true := (List.mem_filter.1 hx).2
  unfold valF
  rw [if_pos h1]
  show (if evF1 (vf x) f then ((fs.length + 1 : Nat) : Int) else 0) + fsum (vf x) fs (List.replicate fs.length (-1)) = _
  rw [lack_sum]
  omega
theorem lack_top {m : Mo} {f : List Int} {fs : List (List Int)} {x : List Bool} (hx : x ∈ allM m) : valF m (f :: fs) (lackW fs) x ≤ ((fs.length + 1 : Nat) : Int) ∧ (valF m (f :: fs) (lackW fs) x = ((fs.length + 1 : Nat) : Int) ↔ defB 1 (evF1 (vf x) f) (cntV fs x) = true) := by
  rw [lack_val hx]
  have h1 : defB 1 (evF1 (vf x) f) (cntV fs x) = (evF1 (vf x) f && decide (cntV fs x = 0)) := rfl
  rw [h1]
  cases evF1 (vf x) f with
  | true => simp; omega
  | false => simp; omega
theorem find_congr6 {p q : List Bool → Bool} : ∀ (L : List (List Bool)), (∀ x ∈ L, p x = q x) → L.find? p = L.find? q
  | [], _ => rfl
  | a :: t, h => by
    rw [List.find?_cons, List.find?_cons, h a (by simp), find_congr6 t fun x hx => h x (by simp [hx])]
theorem find_filter6 (p q : List Bool → Bool) : ∀ (L : List (List Bool)), (L.filter p).find? q = L.find? fun x => p x && q x
  | [] => rfl
  | a :: t => by
    rw [List.filter_cons, List.find?_cons]
    cases hp : p a with
    | true =>
      rw [if_pos rfl, List.find?_cons]
      simp [find_filter6 p q t]
    | false =>
      rw [if_neg (by simp)]
      simp [find_filter6 p q t]
/-- What the greatest sum says. -/
theorem lack_law {m : Mo} {f : List Int} {fs : List (List Int)} {x : List Bool} (hl : fs.length ≤ 1000) (hx : (exts m.opts.length []).find? (fun y => valF m (f :: fs) (lackW fs) y == bestF m (f :: fs) (lackW fs)) = some x) :
    (((fs.length + 1 : Nat) : Int) ≤ bestF m (f :: fs) (lackW fs) → frstV m f fs 1 = some x) ∧ (bestF m (f :: fs) (lackW fs) < ((fs.length + 1 : Nat) : Int) → frstV m f fs 1 = none) := by
  have hmx := List.mem_of_find?_eq_some hx
  have hvx := List.find?_some hx
  simp only [beq_iff_eq] at hvx
  have hbest : ∀ y, y ∈ exts m.opts.length [] → valF m (f :: fs) (lackW fs) y ≤ bestF m (f :: fs) (lackW fs) := fun y hy => maxL_mem _ _ (List.mem_map_of_mem hy)
  constructor
  · intro h
    have hin : x ∈ allM m := by
      refine List.mem_filter.2 ⟨hmx, ?_⟩
      cases ha : allF (vf x) m.rules with
      | true => rfl
      | false =>
        unfold valF at hvx
        rw [ha, if_neg (by simp)] at hvx
        rw [← hvx] at h
        unfold leastI at h
        omega
    have htop := (lack_top (f := f) (fs := fs) hin).1
    rw [← hx]
    unfold frstV allM
    rw [find_filter6]
    refine find_congr6 _ fun y hy => ?_
    cases ha : allF (vf y) m.rules with
    | true =>
      have hyi : y ∈ allM m := List.mem_filter.2 ⟨hy, ha⟩
      have h2 := lack_top (f := f) (fs := fs) hyi
      rw [Bool.true_and, Bool.eq_iff_iff, ← h2.2, beq_iff_eq]
      omega
    | false =>
      have h3 : valF m (f :: fs) (lackW fs) y = leastI := by unfold valF; rw [ha]; rfl
      rw [h3, Bool.false_and]
      symm
      rw [beq_eq_false_iff_ne]
      unfold leastI
      omega
  · intro h
    unfold frstV
    rw [List.find?_eq_none]
    intro y hy hd
    have h2 := lack_top (f := f) (fs := fs) hy
    have h3 := hbest y (List.mem_filter.1 hy).1
    have h4 := h2.2.2 hd
    omega
end Go.Proofs.YtehadoecnmfeoaaGreat

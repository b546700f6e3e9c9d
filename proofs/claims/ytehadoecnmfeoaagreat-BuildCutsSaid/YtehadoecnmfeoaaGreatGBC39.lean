/- Part 39 of this claim's texts: walks and plain laws. -/
import Derived.Test.YtehadoecnmfeoaaGreatRows
import Derived.Test.YtehadoecnmfeoaaGreatGBC38
import Derived.Test.YtehadoecnmfeoaaGreatGBC37
import Derived.Test.YtehadoecnmfeoaaGreatGBC1
import Derived.Sort.OwnSortedInts
import Derived.Shelf.GgSortFunc.InsertionK
import Derived.Laws.OwnMore
import Derived.Test.YtehadoecnmfeoaaGreatGBC2
import Derived.Test.YtehadoecnmfeoaaGreatGBC3
import Derived.Test.YtehadoecnmfeoaaGreatGBC17
import Derived.Maps.RangeWalk
import Derived.WideKeyEntry
import Derived.DeepKeys4
/- What has to be cut for a variant: plain laws for the walks. -/
namespace Go.Proofs.YtehadoecnmfeoaaGreat
open Go.RowKit
set_option linter.unusedVariables false
set_option linter.unusedSimpArgs false
noncomputable def pcI (l : Lo) (i : Nat) : Int × Int := ((l.ws.getD i Wi.o).size, lenW l i)
noncomputable def cutK (l : Lo) (L : List Nat) (k : Nat) : List (Int × Int) := ((L.take k).filter fun i => decide (0 < lenW l i)).map (pcI l)
theorem cutK_succ {l : Lo} {L : List Nat} {k i : Nat} (hk : k < L.length) (hi : L.getD k 0 = i) : cutK l L (k + 1) = if 0 < lenW l i then cutK l L k ++ [pcI l i] else cutK l L k := by
  have h1 : L.getD k 0 = L[k] := by
    rw [List.getD_eq_getElem?_getD, List.getElem?_eq_getElem hk]
    rfl
  unfold cutK
  rw [List.take_add_one, List.getElem?_eq_getElem hk, ← h1, hi, List.filter_append, List.map_append]
  by_cases h : 0 < lenW l i
  · rw [if_pos h]
    simp [h]
  · rw [if_neg h]
    simp [h]
theorem cutK_len (l : Lo) (L : List Nat) (k : Nat) : (cutK l L k).length ≤ k := by
  unfold cutK
  rw [List.length_map]
  exact Nat.le_trans (List.length_filter_le _ _) (List.length_take_le k L)
noncomputable def cutP (l : Lo) (x : List Bool) : List (Int × Int) := cutK l (belL l x) (belL l x).length
noncomputable def cutL (l : Lo) (x : List Bool) : List Ct := if copE l x = 0 then cutS (cutP l x) else []
theorem cutL_err {l : Lo} {x : List Bool} (h : copE l x ≠ 0) : cutL l x = [] := by unfold cutL; rw [if_neg h]
theorem cutL_ok {l : Lo} {x : List Bool} (h : copE l x = 0) : cutL l x = cutS (cutP l x) := by unfold cutL; rw [if_pos h]
theorem copE_zero {l : Lo} {x : List Bool} (h : copE l x = 0) : l.err = 0 := by
  unfold copE havE at h
  by_cases h1 : l.err = 0
  · exact h1
  · rw [if_pos h1] at h
    exact absurd h h1
theorem cntC_le (ps : List (Int × Int)) (s n : Int) : cntC ps s n ≤ ps.length := by
  unfold cntC
  exact List.countP_le_length
def mC (ps : List (Int × Int)) (p : Int × Int) : Option Int := if 0 < cntC ps p.1 p.2 then some ((cntC ps p.1 p.2 : Nat) : Int) else none
theorem mC_nil : mC [] = fun _ => none := by
  funext p
  unfold mC
  rw [if_neg]
  simp [cntC]
theorem mC_getD (ps : List (Int × Int)) (p : Int × Int) : (mC ps p).getD 0 = ((cntC ps p.1 p.2 : Nat) : Int) := by
  unfold mC
  split
  · rfl
  · rename_i h
    show (0 : Int) = _
    omega
theorem mC_put (ps : List (Int × Int)) (p : Int × Int) : putM (mC ps) p (((cntC ps p.1 p.2 : Nat) : Int) + 1) = mC (ps ++ [p]) := by
  funext q
  unfold putM mC
  rw [cntC_snoc]
  by_cases h : q = p
  · subst h
    rw [if_pos rfl, if_pos (by rw [if_pos ⟨rfl, rfl⟩]; omega), if_pos ⟨rfl, rfl⟩]
    rfl
  · have h2 : ¬ (p.1 = q.1 ∧ p.2 = q.2) := fun e => h (Prod.ext e.1.symm e.2.symm)
    rw [if_neg h, if_neg h2]
    rfl
theorem mC_some {ps : List (Int × Int)} {p : Int × Int} {x : Int} (h : mC ps p = some x) : x = (cntC ps p.1 p.2 : Nat) ∧ p ∈ ps := by
  unfold mC at h
  split at h
  · rename_i h1
    injection h with h
    exact ⟨h.symm, cntC_pos.1 h1⟩
  · cases h
theorem mC_of {ps : List (Int × Int)} {p : Int × Int} (h : p ∈ ps) : mC ps p = some ((cntC ps p.1 p.2 : Nat) : Int) := by
  unfold mC
  rw [if_pos (cntC_pos.2 h)]
theorem cut_sorted {ps : List (Int × Int)} {Q Q' : List Ct} (h1 : ∀ c ∈ Q, mC ps (c.s, c.n) = some c.c) (h2 : ∀ p x, mC ps p = some x → ⟨p.1, p.2, x⟩ ∈ Q) (h3 : Q.Pairwise fun a b => ¬ (a.s = b.s ∧ a.n = b.n))
    (hp : Q'.Perm Q) (hs : ∀ i j, i < j → j < Q'.length → ltK (Q'.getD j Ct.o) (Q'.getD i Ct.o) = false) : Q' = cutS ps := by
  have hd : Q'.Pairwise fun a b => ¬ (a.s = b.s ∧ a.n = b.n) := (hp.pairwise_iff fun {a b} h e => h ⟨e.1.symm, e.2.symm⟩).2 h3
  refine cutI_uniq ⟨?_, fun c hc => ?_, fun c hc => ?_, fun p hpp => ?_⟩ (cutS_is ps)
  · rw [List.pairwise_iff_getElem] at hd ⊢
    intro i j hi hj hij
    have h4 := hs i j hij hj
    rw [List.getD_eq_getElem?_getD, List.getD_eq_getElem?_getD, List.getElem?_eq_getElem hi, List.getElem?_eq_getElem hj] at h4
    have h5 := hd i j hi hj hij
    have h6 : ¬ ltK Q'[j] Q'[i] = true := by
      have h7 : ltK Q'[j] Q'[i] = false := h4
      rw [h7]
      simp
    rw [ltK_iff] at h6 ⊢
    omega
  · exact (mC_some (h1 c (hp.mem_iff.1 hc))).1
  · exact (mC_some (h1 c (hp.mem_iff.1 hc))).2
  · exact ⟨⟨p.1, p.2, _⟩, hp.mem_iff.2 (h2 p _ (mC_of hpp)), rfl, rfl⟩
theorem insC_pos {X : Ct} (hX : X.c = 1) : ∀ {O : List Ct} {j : Nat}, j ≤ O.length → (∀ i, i < j → ltK (O.getD i Ct.o) X = true) → (j < O.length → ltK (O.getD j Ct.o) X = false) →
    insC X O = if j < O.length ∧ sameK (O.getD j Ct.o) X = true then O.set j ⟨(O.getD j Ct.o).s, (O.getD j Ct.o).n, (O.getD j Ct.o).c + 1⟩ else O.take j ++ X :: O.drop j
  | [], j, hj, _, _ => by
    obtain rfl : j = 0 := by simpa using hj
    rw [if_neg (by simp)]
    rfl
  | a :: r, 0, _, _, hs => by
    have h1 : ltK a X = false := hs (by simp)
    show insC X (a :: r) = if 0 < (a :: r).length ∧ sameK a X = true then (⟨a.s, a.n, a.c + 1⟩ : Ct) :: r else X :: a :: r
    unfold insC
    rw [if_neg (by rw [h1]; simp)]
    by_cases h2 : sameK a X = true
    · rw [if_pos h2, if_pos ⟨by simp, h2⟩]
    · rw [if_neg h2, if_neg (fun e => h2 e.2)]
  | a :: r, j + 1, hj, h, hs => by
    have h1 : ltK a X = true := h 0 (by omega)
    have ih := insC_pos hX (O := r) (j := j) (by simpa using hj) (fun i hi => h (i + 1) (by omega)) (fun hl => hs (by simpa using hl))
    show insC X (a :: r) = if j + 1 < (a :: r).length ∧ sameK (r.getD j Ct.o) X = true then a :: r.set j ⟨(r.getD j Ct.o).s, (r.getD j Ct.o).n, (r.getD j Ct.o).c + 1⟩ else a :: (r.take j ++ X :: r.drop j)
    unfold insC
    rw [if_pos h1, ih]
    by_cases h2 : j < r.length ∧ sameK (r.getD j Ct.o) X = true
    · rw [if_pos h2, if_pos ⟨by simpa using h2.1, h2.2⟩]
    · rw [if_neg h2, if_neg (fun e => h2 ⟨by simpa using e.1, e.2⟩)]
def dwn (O : List Ct) (X : Ct) (k : Nat) : List Ct := O.take k ++ X :: O.drop k
theorem dwn_len {O : List Ct} {X : Ct} {k : Nat} (hk : k ≤ O.length) : (dwn O X k).length = O.length + 1 := by
  unfold dwn
  rw [List.length_append, List.length_cons, List.length_take, List.length_drop]
  omega
theorem dwn_end (O : List Ct) (X : Ct) : dwn O X O.length = O ++ [X] := by
  unfold dwn
  rw [List.take_length, List.drop_length]
theorem dwn_at {O : List Ct} {X : Ct} {k : Nat} (hk : k ≤ O.length) : (dwn O X k).getD k Ct.o = X := by
  unfold dwn
  rw [List.getD_eq_getElem?_getD, List.getElem?_append_right (by rw [List.length_take]; omega), List.length_take, show k - min k O.length = 0 by omega]
  rfl
theorem dwn_step {O : List Ct} {X : Ct} {k : Nat} (h0 : 0 < k) (hk : k ≤ O.length) : ((dwn O X k).set k ((dwn O X k).getD (k - 1) Ct.o)).set (k - 1) X = dwn O X (k - 1) := by
  obtain ⟨j, rfl⟩ : ∃ j, k = j + 1 := ⟨k - 1, by omega⟩
  rw [Nat.add_sub_cancel]
  have hl : (O.take j).length = j := by rw [List.length_take]; omega
  have h1 : O.take (j + 1) = O.take j ++ [O.getD j Ct.o] := by
    rw [List.take_add_one, List.getElem?_eq_getElem (by omega), List.getD_eq_getElem?_getD, List.getElem?_eq_getElem (by omega)]
    rfl
  have h2 : O.drop j = O.getD j Ct.o :: O.drop (j + 1) := by
    rw [List.drop_eq_getElem_cons (by omega), List.getD_eq_getElem?_getD, List.getElem?_eq_getElem (by omega)]
    rfl
  have h3 : dwn O X (j + 1) = O.take j ++ O.getD j Ct.o :: X :: O.drop (j + 1) := by
    unfold dwn
    rw [h1, List.append_assoc]
    rfl
  have h4 : (dwn O X (j + 1)).getD j Ct.o = O.getD j Ct.o := by
    rw [h3, List.getD_eq_getElem?_getD, List.getElem?_append_right (by omega), hl, Nat.sub_self]
    rfl
  rw [h4, h3]
  unfold dwn
  rw [h2, List.set_append_right _ _ (by omega), List.set_append_right _ _ (by omega), hl, show j + 1 - j = 1 by omega, Nat.sub_self]
  rfl
theorem set_same {l : List Value} {i : Nat} {v : Value} (h : l[i]? = some v) : l.set i v = l := by
  refine List.ext_getElem? fun j => ?_
  rw [List.getElem?_set]
  by_cases e : i = j
  · subst e
    rw [if_pos rfl, h, if_pos (List.getElem?_eq_some_iff.1 h).1]
  · rw [if_neg e]
theorem pik_cop (l : Lo) (x : List Bool) : pikE l [] x = copE l x := by
  unfold pikE copE havE bldE
  by_cases h : l.err = 0
  · rw [if_neg (show ¬ l.err ≠ 0 by simp [h])]
    simp [h]
    unfold mustE
    by_cases h2 : x.length = l.m.opts.length <;> simp [h2]
  · rw [if_pos h, if_neg h, if_pos h]
theorem cutS_len (ps : List (Int × Int)) (p : Int × Int) : (cutS (ps ++ [p])).length ≤ (cutS ps).length + 1 := by
  rw [cutS_snoc]
  generalize cutS ps = o
  induction o with
  | nil => simp [insC]
  | cons a r ih =>
    unfold insC
    split
    · simpa using ih
    · split
      · simp
      · simp
theorem pcI_bd {l : Lo} (ok : LoOk l) {i : Nat} (hi : i < l.ws.length) : 1 ≤ (pcI l i).1 ∧ (pcI l i).1 ≤ 10000 ∧ 0 ≤ (pcI l i).2 ∧ (pcI l i).2 ≤ 40000000 := by
  have h1 := ok.dist (x := endF l i) (z := endT l i)
  have h2 := sz_ok ok hi
  exact ⟨h2.1, h2.2, h1.1, h1.2⟩
end Go.Proofs.YtehadoecnmfeoaaGreat
/- Rows of elements of some cells each, and the library's sort over them. -/
namespace Go.Proofs.YtehadoecnmfeoaaGreat
open Go.RowKit Go.Sort
set_option linter.unusedVariables false
set_option linter.unusedSimpArgs false
section
variable {α : Type} (enc : α → List Value)
def rowV (L : List α) : List Value := L.flatMap enc
variable {enc}
theorem rowV_snoc (L : List α) (a : α) : rowV enc (L ++ [a]) = rowV enc L ++ enc a := by simp [rowV]
theorem rowV_len {k : Nat} (hk : ∀ a, (enc a).length = k) : ∀ L : List α, (rowV enc L).length = L.length * k
  | [] => by simp [rowV]
  | a :: L => by
    show (enc a ++ rowV enc L).length = _
    rw [List.length_append, hk, rowV_len hk L, List.length_cons, Nat.succ_mul, Nat.add_comm]
theorem rowV_get {k : Nat} (hk : ∀ a, (enc a).length = k) (z : α) : ∀ {L : List α} {i j : Nat}, i < L.length → j < k → (rowV enc L)[i * k + j]? = (enc (L.getD i z))[j]?
  | a :: L, 0, j, _, hj => by
    show (enc a ++ rowV enc L)[0 * k + j]? = _
    rw [List.getElem?_append_left (by rw [hk]; omega), Nat.zero_mul, Nat.zero_add]
    rfl
  | a :: L, i + 1, j, hi, hj => by
    show (enc a ++ rowV enc L)[(i + 1) * k + j]? = _
    rw [List.getElem?_append_right (by rw [hk, Nat.succ_mul]; omega), hk, show (i + 1) * k + j - k = i * k + j by rw [Nat.succ_mul]; omega, rowV_get hk z (by simpa using hi) hj]
    rfl
def setAll (Fc : List Value) : Nat → List Value → List Value
  | _, [] => Fc
  | s, v :: r => setAll (Fc.set s v) (s + 1) r
theorem setAll_get : ∀ (vs : List Value) (s : Nat) (Fc : List Value) (t : Nat), s + vs.length ≤ Fc.length → (setAll Fc s vs)[t]? = if s ≤ t ∧ t < s + vs.length then vs[t - s]? else Fc[t]?
  | [], s, Fc, t, _ => by
    rw [setAll, if_neg (by simp)]
  | v :: r, s, Fc, t, h => by
    have h' : s + 1 + r.length ≤ Fc.length := by simp at h; omega
    rw [setAll, setAll_get r (s + 1) _ t (by rw [List.length_set]; exact h'), List.getElem?_set]
    by_cases h1 : s + 1 ≤ t ∧ t < s + 1 + r.length
    · rw [if_pos h1, if_pos (by simp; omega)]
      obtain ⟨u, rfl⟩ : ∃ u, t = s + 1 + u := ⟨t - (s + 1), by omega⟩
      rw [show s + 1 + u - (s + 1) = u by omega, show s + 1 + u - s = u + 1 by omega, List.getElem?_cons_succ]
    · rw [if_neg h1]
      by_cases h2 : s = t
      · subst h2
        rw [if_pos rfl, if_pos (by omega), if_pos (by simp), Nat.sub_self]
        rfl
      · rw [if_neg h2, if_neg (by simp; omega)]
theorem idx_div {k i j t : Nat} (hj : j < k) (h : t = i * k + j) : t / k = i ∧ t % k = j := by
  subst h
  have hk : 0 < k := by omega
  constructor
  · rw [Nat.mul_comm, Nat.mul_add_div hk, Nat.div_eq_of_lt hj, Nat.add_zero]
  · rw [Nat.mul_comm, Nat.mul_add_mod, Nat.mod_eq_of_lt hj]
theorem rowV_set {k : Nat} (hk : ∀ a, (enc a).length = k) {L : List α} {i : Nat} (hi : i < L.length) (a : α) : setAll (rowV enc L) (i * k) (enc a) = rowV enc (L.set i a) := by
  rcases Nat.eq_zero_or_pos k with h0 | h0
  · have e1 : enc a = [] := List.length_eq_zero_iff.1 ((hk a).trans h0)
    have e2 : ∀ M : List α, rowV enc M = [] := fun M => List.length_eq_zero_iff.1 (by rw [rowV_len hk, h0, Nat.mul_zero])
    rw [e1, e2, e2]
    rfl
  have hle : i * k + (enc a).length ≤ (rowV enc L).length := by
    rw [hk, rowV_len hk, ← Nat.succ_mul]
    exact Nat.mul_le_mul_right _ hi
  refine List.ext_getElem? fun t => ?_
  rw [setAll_get _ _ _ _ hle, hk]
  by_cases ht : t < L.length * k
  · have e1 : t / k < L.length := Nat.div_lt_of_lt_mul (by rw [Nat.mul_comm]; exact ht)
    have e2 : t = t / k * k + t % k := (Nat.div_add_mod' t k).symm
    have e3 : t % k < k := Nat.mod_lt _ h0
    have g1 : (rowV enc (L.set i a))[t]? = (enc ((L.set i a).getD (t / k) a))[t % k]? := by
      conv => lhs; rw [e2]
      exact rowV_get hk a (by rw [List.length_set]; exact e1) e3
    have g2 : (rowV enc L)[t]? = (enc (L.getD (t / k) a))[t % k]? := by
      conv => lhs; rw [e2]
      exact rowV_get hk a e1 e3
    rw [g1, g2]
    by_cases h1 : i * k ≤ t ∧ t < i * k + k
    · have h2 := idx_div (k := k) (i := i) (j := t - i * k) (t := t) (by omega) (by omega)
      rw [if_pos h1, h2.1, h2.2, List.getD_eq_getElem?_getD, List.getElem?_set, if_pos rfl, if_pos hi]
      rfl
    · have hne : ¬ i = t / k := fun e => by
        rw [e] at h1
        omega
      have g3 : (L.set i a).getD (t / k) a = L.getD (t / k) a := by
        rw [List.getD_eq_getElem?_getD, List.getElem?_set, if_neg hne, ← List.getD_eq_getElem?_getD]
      rw [if_neg h1, g3]
  · have h2 : (i + 1) * k ≤ L.length * k := Nat.mul_le_mul_right _ hi
    rw [Nat.succ_mul] at h2
    rw [if_neg (by omega), List.getElem?_eq_none (by rw [rowV_len hk]; omega), List.getElem?_eq_none (by rw [rowV_len hk, List.length_set]; omega)]
theorem flatK_row [Inhabited α] {k : Nat} (hk : ∀ a, (enc a).length = k) (L : List α) : flatK enc k L.toArray = (rowV enc L).toArray := by
  rcases Nat.eq_zero_or_pos k with h0 | h0
  · have e2 : rowV enc L = [] := List.length_eq_zero_iff.1 (by rw [rowV_len hk, h0, Nat.mul_zero])
    rw [e2]
    refine Array.eq_empty_of_size_eq_zero ?_
    rw [size_flatK, h0, Nat.mul_zero]
  refine Array.ext (by rw [size_flatK]; simp [rowV_len hk]) fun t h1 h2 => ?_
  have ht : t < L.length * k := by simpa using h1
  have e1 : t / k < L.length := Nat.div_lt_of_lt_mul (by rw [Nat.mul_comm]; exact ht)
  have e3 : t % k < k := Nat.mod_lt _ h0
  have g2 : (rowV enc L)[t]? = (enc (L.getD (t / k) default))[t % k]? := by
    conv => lhs; rw [show t = t / k * k + t % k from (Nat.div_add_mod' t k).symm]
    exact rowV_get hk default e1 e3
  have g3 := get_flatK enc k L.toArray t (by simpa using ht)
  rw [getElem!_pos (flatK enc k L.toArray) t h1] at g3
  rw [g3]
  have e4 : (L.toArray)[t / k]! = L.getD (t / k) default := by
    rw [getElem!_pos L.toArray (t / k) (by simpa using e1), List.getD_eq_getElem?_getD, List.getElem?_eq_getElem e1]
    simp
  rw [e4]
  have e5 : t % k < (enc (L.getD (t / k) default)).length := by rw [hk]; exact e3
  rw [getElem!_pos (enc (L.getD (t / k) default)) (t % k) e5]
  have e6 : (rowV enc L).toArray[t] = (rowV enc L)[t]'(by simpa using h2) := by simp
  rw [e6]
  rw [List.getElem?_eq_getElem (by simpa using h2), List.getElem?_eq_getElem e5] at g2
  injection g2 with g2
  exact g2.symm
end
theorem holds_row {w : World} {g : Nat} {cur : Array Value} {e : TypeId} {Fc : List Value} (hb : w.heap[g]? = some (.cells cur e (0, 0))) (ht : cur.toList.take Fc.length = Fc) : Holds id w g 0 Fc.toArray := by
  intro j hj
  have hj' : j < Fc.length := by simpa using hj
  refine ⟨?_, by simp [World.frozen?, hb]⟩
  have h1 : (cur.toList.take Fc.length)[j]? = Fc[j]? := by rw [ht]
  rw [List.getElem?_take_of_lt hj'] at h1
  simp only [World.cell?, hb, Nat.zero_add]
  simp only [Option.isSome_none, Bool.false_eq_true, if_false]
  rw [← Array.getElem?_toList, h1]
  simp [hj']
theorem heap_sortedV {w : World} {g n : Nat} {os : Array Obj} {cur : Array Value} {e : TypeId} {fr : Nat × Nat} (d : Array Value) (hb : w.heap[g]? = some (.cells cur e fr)) :
    (grow (putRow id (Sort.ahead w n) g 0 d) os).heap[g]? = some (.cells (putCells id 0 d cur) e fr) := by
  have hg : g < w.heap.size := (Array.getElem?_eq_some_iff.1 hb).1
  rw [heap_grow_old _ _ (by simpa using hg)]
  simp [putRow, mapBlock, Sort.ahead, Array.getElem?_modify, hb, onCells]
theorem grownBy_sortedV {w : World} {g n : Nat} {os : Array Obj} (d : Array Value) : w.grownBy (grow (putRow id (Sort.ahead w n) g 0 d) os) (some g) := by
  refine ⟨rfl, rfl, rfl, by simp, fun k hk hne => ?_⟩
  rw [heap_grow_old _ _ (by simpa using hk)]
  have : g ≠ k := fun e => hne (by rw [e])
  simp [putRow, mapBlock, Sort.ahead, Array.getElem?_modify, this]
theorem take_putCellsV (cur : Array Value) (ts : List Value) (h : ts.length ≤ cur.size) : (putCells id 0 ts.toArray cur).toList.take ts.length = ts := by
  apply List.ext_getElem?
  intro j
  by_cases hj : j < ts.length
  · rw [List.getElem?_take_of_lt hj, Array.getElem?_toList]
    simp [putCells, hj, show j < cur.size by omega]
  · rw [List.getElem?_take_eq_none (by omega), List.getElem?_eq_none (by omega)]
theorem ownsRow_sortedV {w : World} {base g cap n size m : Nat} {e : TypeId} {os : Array Obj} {cur : Array Value} {Fc : List Value} (hF : Fc.length = n * size) (hbase : base ≤ g) (hb : w.heap[g]? = some (.cells cur e (0, 0)))
    (h1 : n ≤ cap) (h2 : cap ≤ maxLen) (h3 : cur.size = cap * size) :
    (grow (putRow id (Sort.ahead w m) g 0 Fc.toArray) os).ownsRow base e size (.slice (some ⟨g, 0, none⟩) n cap) n Fc :=
  ⟨hF, .inr ⟨g, cap, _, rfl, hbase, heap_sortedV _ hb, h1, h2, by simp [putCells, h3], by
    rw [← hF]
    refine take_putCellsV cur Fc ?_
    rw [h3, hF]
    exact Nat.mul_le_mul_right _ h1⟩⟩
theorem perm_list {α : Type} [Inhabited α] {L : List α} {d' : Array α} (h : PermIn 0 L.toArray.size L.toArray d') : d'.toList.Perm L := by
  obtain ⟨h1, _, h3⟩ := h
  have e1 : d'.extract 0 L.toArray.size = d' := by rw [← h1]; exact Array.extract_size
  have e2 : L.toArray.extract 0 L.toArray.size = L.toArray := Array.extract_size
  rw [e1, e2] at h3
  simpa using h3
theorem sorted_list {α : Type} [Inhabited α] {lt : α → α → Bool} {n : Nat} {d' : Array α} (hn : d'.size = n) (h : SortedIn lt 0 n d') (z : α) : ∀ i j, i < j → j < d'.toList.length → lt (d'.toList.getD j z) (d'.toList.getD i z) = false := by
  intro i j hij hj
  have hj' : j < d'.size := by simpa using hj
  have h1 := h i j (Nat.zero_le _) hij (by omega)
  rw [getElem!_pos d' j hj', getElem!_pos d' i (show i < d'.size by omega)] at h1
  rw [List.getD_eq_getElem?_getD, List.getD_eq_getElem?_getD, List.getElem?_eq_getElem (by simpa using hj'), List.getElem?_eq_getElem (by simpa using (show i < d'.size by omega))]
  simpa using h1
theorem own_set3 {w : World} {base e g cap n : Nat} {xs : List Value} (h : w.ownsRow base e 3 (.slice (some ⟨g, 0, none⟩) n cap) n xs) (s : Nat) (u v x : Value) :
    (((w.setCell ⟨g, s, none⟩ u).setCell ⟨g, s + 1, none⟩ v).setCell ⟨g, s + 1 + 1, none⟩ x).ownsRow base e 3 (.slice (some ⟨g, 0, none⟩) n cap) n (setAll xs s [u, v, x]) ∧ w.grownBy (((w.setCell ⟨g, s, none⟩ u).setCell ⟨g, s + 1, none⟩ v).setCell ⟨g, s + 1 + 1, none⟩ x) (some g) := by
  obtain ⟨h1, h2⟩ := h.stored s u
  obtain ⟨h3, h4⟩ := h1.stored (s + 1) v
  obtain ⟨h5, h6⟩ := h3.stored (s + 1 + 1) x
  exact ⟨h5, only_trans (only_trans h2 h4) h6⟩
end Go.Proofs.YtehadoecnmfeoaaGreat
/- A map of counts in memory, gone through in the order that nobody knows; lists of what has to be cut. -/
namespace Go.Proofs.YtehadoecnmfeoaaGreat
open Go.RowKit Go.Maps
open Go.Maps (Keyed)
open Go.ChangeMaps Go.MapKept Go.WideShapes
set_option linter.unusedVariables false
set_option linter.unusedSimpArgs false
theorem okw_inj {β : Type} {a b : β} {u v : World} (h : (Result.ok a u : Result β) = .ok b v) : a = b ∧ u = v := by
  injection h with h1 h2
  exact ⟨h1, h2⟩
section
variable {α : Type} {P : Program} {w : World} {k e b n : Nat} {enc : α → Value} {m : α → Option Int}
def MapAll (P : Program) (w : World) (k e b n : Nat) (enc : α → Value) (m : α → Option Int) : Prop :=
  ∃ D : DataW Unit, w.ownsMap P k (plainElem P e) b n D ∧ (∀ a l, keyOf P k (enc a) = some l →
    (m a = none → Maps.has D l = false) ∧ ∀ x, m a = some x → Maps.has D l = true ∧ D.atKey l (.lit (.int .i64 0)) = .lit (.int .i64 x)) ∧ ∀ l, Maps.has D l = true → ∃ a x, keyOf P k (enc a) = some l ∧ m a = some x
theorem MapAll.is (h : MapAll P w k e b n enc m) : MapIs P w k e b n enc m := by
  obtain ⟨D, h1, h2, _⟩ := h
  exact ⟨D, h1, h2⟩
theorem MapAll.made (P : Program) (w : World) (k e : Nat) (enc : α → Value) : MapAll P (w.alloc (.map #[] 0)) k e w.heap.size 0 enc (fun _ => none) :=
  ⟨_, World.ownsMap_made w P k _, fun a l _ => ⟨fun _ => rfl, fun x h => by cases h⟩, fun l h => by cases h⟩
theorem MapAll.mono (h : MapAll P w k e b n enc m) {n' : Nat} (hn : n ≤ n') : MapAll P w k e b n' enc m := by
  obtain ⟨D, h1, h2⟩ := h
  exact ⟨D, h1.mono hn, h2⟩
theorem MapAll.same {w' : World} (h : MapAll P w k e b n enc m) (hb : w'.heap[b]? = w.heap[b]?) : MapAll P w' k e b n enc m := by
  obtain ⟨D, ⟨es, c, h0, h1⟩, h2⟩ := h
  exact ⟨D, ⟨es, c, hb.trans h0, h1⟩, h2⟩
theorem MapAll.lt (h : MapAll P w k e b n enc m) : b < w.heap.size := h.is.lt
theorem MapAll.put' [DecidableEq α] (K : Keyed P k) (hinj : ∀ a a', enc a = enc a' → a = a') {D : DataW Unit} (h1 : w.ownsMap P k (plainElem P e) b n D) (h2 : ∀ a l, keyOf P k (enc a) = some l →
    (m a = none → Maps.has D l = false) ∧ ∀ x, m a = some x → Maps.has D l = true ∧ D.atKey l (.lit (.int .i64 0)) = .lit (.int .i64 x)) (hall : ∀ l, Maps.has D l = true → ∃ a x, keyOf P k (enc a) = some l ∧ m a = some x) {a : α} {l : Lit} (hkey : keyOf P k (enc a) = some l) (x : Int) {w' : World} (h3 : w'.ownsMap P k (plainElem P e) b (n + 1) (D.put l (.lit (.int .i64 x)))) :
    MapAll P w' k e b (n + 1) enc (putM m a x) := by
  refine ⟨_, h3, fun a' l' hk' => ?_, fun l' hl' => ?_⟩
  · unfold putM
    by_cases ha : a' = a
    · subst ha
      rw [hkey] at hk'
      injection hk' with hk'
      subst hk'
      rw [if_pos rfl]
      exact ⟨fun h => (by cases h), fun y hy => by
        injection hy with hy
        subst hy
        exact ⟨Maps.has_put_same h1.isMap (K.key hkey) _, Maps.atKey_put_same h1.isMap (K.key hkey) _ _⟩⟩
    · rw [if_neg ha]
      have hl : l' ≠ l := fun e => by
        subst e
        exact ha (hinj _ _ (K.inj hk' hkey))
      obtain ⟨h4, h5⟩ := h2 a' l' hk'
      refine ⟨fun h => (Maps.has_put_other hl _).trans (h4 h), fun y hy => ?_⟩
      obtain ⟨h6, h7⟩ := h5 y hy
      exact ⟨(Maps.has_put_other hl _).trans h6, (Maps.atKey_put_other hl _ _).trans h7⟩
  · by_cases hl : l' = l
    · subst hl
      exact ⟨a, x, hkey, by unfold putM; rw [if_pos rfl]⟩
    · rw [Maps.has_put_other hl] at hl'
      obtain ⟨a', x', h4, h5⟩ := hall l' hl'
      refine ⟨a', x', h4, ?_⟩
      unfold putM
      rw [if_neg, h5]
      intro e
      subst e
      rw [hkey] at h4
      injection h4 with h4
      exact hl h4.symm
set_option maxRecDepth 100000 in
theorem MapAll.entry [DecidableEq α] {t : Nat} (h : MapAll P w k e b n enc m) (K : Keyed P k) (KL : Go.WideMaps.KeyLaw P k) (ht : P.underlying t = some (.map k e)) (he : P.underlying e = some (.int .i64)) (hz : ∀ u : World, (zeroValue e).run P u = .ok (.int .i64 0) u) (hinj : ∀ a a', enc a = enc a' → a = a') (hn : n < maxLen) {a : α} {l : Lit} (hkey : keyOf P k (enc a) = some l) :
    ∃ (v0 : Value) (st : Nat) (w1 : World), (Instr.mapEntry t (.map (some b)) (enc a)).run P w = .ok (.tuple #[v0, goInt st]) w1 ∧ w.grownBy w1 (some b) ∧ w1.heap.size = w.heap.size ∧
      (∀ w2 : World, w2.heap[b]? = w1.heap[b]? → (Instr.lookup t (.map (some b)) (enc a) false).run P w2 = .ok (.int .i64 ((m a).getD 0)) w2) ∧
      ∀ (w2 : World) (x : Int), (Lit.int .i64 x).wf = true → w2.heap[b]? = w1.heap[b]? → ∃ w3, (Instr.entryStore t (.map (some b)) (goInt st) (.int .i64 x)).run P w2 = .ok () w3 ∧ MapAll P w3 k e b (n + 1) enc (putM m a x) ∧ w2.grownBy w3 (some b) := by
  obtain ⟨D, h1, h2, h3⟩ := h
  have hown := h1
  obtain ⟨es, clock, hb, F, hsz, hD⟩ := h1
  obtain ⟨v0, st, es1, clock1, hrun, hv0, hst⟩ := Go.WideElems.entry_then_store KL ht hz hb F hkey
  refine ⟨v0, st, setBlock w b (.map es1 clock1), hrun, ⟨rfl, rfl, rfl, by simp [setBlock], fun i _ hi => (MapKept.heap_set (o' := .map es1 clock1) hb).2 i (fun e1 => hi (by rw [e1]))⟩, by simp [setBlock], fun w2 hw2 => ?_, fun w2 x hx hw2 => ?_⟩
  · have hMI : MapIs P w k e b n enc m := ⟨D, hown, h2⟩
    rcases KL.find w hkey es.toList F.keys with ⟨f1, f2⟩ | ⟨j, e0, f1, f2, f3⟩
    · have hrun2 : (Instr.mapEntry t (.map (some b)) (enc a)).run P w = .ok (.tuple #[.int .i64 0, goInt clock]) (setBlock w b (.map (es.push ⟨enc a, .int .i64 0, clock⟩) (clock + 1))) := by
        simp [Instr.mapEntry, run_underlying ht, MapKept.run_getObj_map hb, KL.check w false hkey, f1, hz, MapKept.run_setObj_map _ hb, Result.andThen, setBlock]
      have e2 := (okw_inj (hrun.symm.trans hrun2)).2
      obtain ⟨w', hu, h4, _⟩ := hown.update K ht hn hkey (plainElem_int he (show (Lit.int .i64 0).wf = true by decide))
      have hu2 : (Instr.mapUpdate t (.map (some b)) (enc a) (.int .i64 0)).run P w = .ok () (setBlock w b (.map (es.push ⟨enc a, .int .i64 0, clock⟩) (clock + 1))) := by
        simp [Instr.mapUpdate, run_underlying ht, MapKept.run_getObj_map hb, KL.check w false hkey, f1, MapKept.run_setObj_map _ hb, Result.andThen, setBlock]
      have e3 := (okw_inj (hu.symm.trans hu2)).2
      have hM2 : MapIs P w2 k e b (n + 1) enc (putM m a 0) := (MapIs.put' K hinj hown h2 hkey 0 h4).same (hw2.trans (by rw [e2, ← e3]))
      have hl2 := hM2.look1 K ht he (hz w2) hkey
      have hl1 := hMI.look1 K ht he (hz w) hkey
      have hl0 : (Instr.lookup t (.map (some b)) (enc a) false).run P w = .ok (.int .i64 0) w := by
        simp [Instr.lookup, run_underlying ht, MapKept.run_getObj_map hb, KL.check w es.isEmpty hkey, f1, hz, Result.andThen]
      have hl1 := (okw_inj (hl0.symm.trans hl1)).1
      have hl1 : (0 : Int) = (m a).getD 0 := by
        revert hl1
        generalize (m a).getD 0 = q
        intro hl1
        injection hl1
      rw [hl2, ← hl1]
      unfold putM
      rw [if_pos rfl]
      rfl
    · have hj : es[j]? = some e0 := by simpa using f2
      have hsame : es.modify j (fun e => { e with key := enc a }) = es := by
        apply Array.ext'
        rw [Array.toList_modify, Go.ChangeMaps.modify_eq_set _ _ _ _ f2]
        have : ({ e0 with key := enc a } : MapEntry) = e0 := by rw [← f3]
        rw [this]
        exact Go.WideElems.set_self _ _ _ f2
      have hrun2 : (Instr.mapEntry t (.map (some b)) (enc a)).run P w = .ok (.tuple #[e0.val, goInt e0.born]) (setBlock w b (.map es clock)) := by
        simp [Instr.mapEntry, run_underlying ht, MapKept.run_getObj_map hb, KL.check w false hkey, f1, hj, f3, KL.stays w hkey, hsame, MapKept.run_setObj_map _ hb, Result.andThen, setBlock]
      have e2 := (okw_inj (hrun.symm.trans hrun2)).2
      have hbw : (setBlock w b (.map es clock)).heap[b]? = w.heap[b]? := (MapKept.heap_set (o' := .map es clock) hb).1.trans hb.symm
      have hM2 : MapIs P w2 k e b n enc m := hMI.same (hw2.trans (by rw [e2]; exact hbw))
      exact hM2.look1 K ht he (hz w2) hkey
  · have hw2' : w2.heap[b]? = some (.map es1 clock1) := hw2.trans (MapKept.heap_set (o' := .map es1 clock1) hb).1
    obtain ⟨es', clock', g1, g2⟩ := hst w2 (.int .i64 x) hw2'
    obtain ⟨w', hu, h4, _⟩ := hown.update K ht hn hkey (plainElem_int he hx)
    have e3 := (okw_inj (hu.symm.trans g2)).2
    refine ⟨_, g1, (MapAll.put' K hinj hown h2 h3 hkey x h4).same ?_, ⟨rfl, rfl, rfl, by simp [setBlock], fun i _ hi => (MapKept.heap_set (o' := .map es' clock') hw2').2 i (fun e1 => hi (by rw [e1]))⟩⟩
    rw [e3]
    exact (MapKept.heap_set (o' := .map es' clock') hw2').1.trans (MapKept.heap_set (o' := .map es' clock') hb).1.symm
end
section
variable {α : Type} {P : Program}
theorem wpList_next_all (w : World) {ops : Array Oper} {rest : List Oper} {o : Oper} {ac : Act} {Q : Exit → Act → World → Prop} (hg : o.guard = none) (it : Operand) (hop : o.op = Op.next it false) {k e b r n cnt : Nat} (K : Keyed P k) (he : P.underlying e = some (.int .i64)) {enc : α → Value} {m : α → Option Int} {D : DataW Unit} {left : Lit → Bool}
    (hD : ∀ a l, keyOf P k (enc a) = some l → ∀ x, m a = some x → D.atKey l (.lit (.int .i64 0)) = .lit (.int .i64 x)) (hall : ∀ l, left l = true → ∃ a x, keyOf P k (enc a) = some l ∧ m a = some x)
    (hit : ac.eval it = .pointer (some ⟨r, 0, none⟩)) (h : w.ranges P k (plainElem P e) b r n D left cnt)
    (hDone : (∀ kl, left kl = false) → wpList P ops Q rest (ac.put o.dst (.tuple #[.bool false])) w)
    (hMore : ∀ (a : α) (x : Int) (kl : Lit) (w' : World) (cnt' : Nat), keyOf P k (enc a) = some kl → left kl = true → m a = some x → w'.ranges P k (plainElem P e) b r n D (fun z => left z && !z.sameKey kl) cnt' → cnt' < cnt →
      w.grownBy w' (some r) → w'.heap.size = w.heap.size → (Instr.entry (.pointer (some ⟨r, 0, none⟩))).run P w' = .ok (.tuple #[enc a, .int .i64 x]) w' → wpList P ops Q rest (ac.put o.dst (.tuple #[.bool true, enc a, .int .i64 x])) w') :
    wpList P ops Q (o :: rest) ac w := by
  refine wpList_plain hg fun K' hK' => ?_
  unfold Oper.wp
  rcases h.next K o.type with ⟨h0, hl, hrun⟩ | ⟨key, v, kl, y, w', cnt', hkey, hlk, hv, hat, hrun, hrg, hlt, hgr, hsz, hen⟩
  · simp [execOp, hop, hit, hrun, Result.andThen]
    exact hK' _ _ (hDone hl)
  · obtain ⟨a, x, h1, h2⟩ := hall kl hlk
    have e1 := K.inj hkey h1
    subst e1
    obtain ⟨c, rfl, hc, _⟩ := plainElem_int_inv he hv
    have h3 := hD a kl h1 x h2
    rw [hat, hc] at h3
    injection h3 with h3
    injection h3 with _ h3
    subst h3
    simp [execOp, hop, hit, hrun, Result.andThen]
    exact hK' _ _ (hMore a c kl w' cnt' hkey hlk h2 hrg hlt hgr hsz hen)
end
def ctE (a : Ct) : List Value := [.int .i64 a.s, .int .i64 a.n, .int .i64 a.c]
theorem ctE_len (a : Ct) : (ctE a).length = 3 := rfl
def ctF (a : Ct) (j : Nat) : Value := match j with
  | 0 => .int .i64 a.s
  | 1 => .int .i64 a.n
  | _ => .int .i64 a.c
theorem ctE_get (a : Ct) {j : Nat} (hj : j < 3) : (ctE a)[j]? = some (ctF a j) := by
  match j, hj with
  | 0, _ => rfl
  | 1, _ => rfl
  | 2, _ => rfl
def Cts (w : World) (B : Nat) (v : Value) (L : List Ct) : Prop := Sl w B 3 v L.length (fun i j => ctF (L.getD i Ct.o) j)
theorem Cts.of_own {w : World} {B e : Nat} {v : Value} {L : List Ct} (h : w.ownsRow B e 3 v L.length (rowV ctE L)) : Cts w w.heap.size v L :=
  Sl.of_owns h fun i j hi hj => (rowV_get ctE_len Ct.o hi hj).trans (ctE_get _ hj)
theorem Cts.at {w : World} {B : Nat} {A : Option Addr} {m q : Nat} {L : List Ct} (h : Cts w B (.slice A m q) L) {k : Nat} (hk : k < L.length) : ∃ b off a, Hid (L.getD k Ct.o = a) ∧ A = some ⟨b, off, none⟩ ∧ b < B ∧ L.length ≤ q ∧
    w.cell? ⟨b, off + k * 3, none⟩ = some (.int .i64 a.s) ∧ w.cell? ⟨b, off + k * 3 + 1, none⟩ = some (.int .i64 a.n) ∧ w.cell? ⟨b, off + k * 3 + 1 + 1, none⟩ = some (.int .i64 a.c) := by
  obtain ⟨h1, h2, b, off, h3, h4, h5⟩ := sl_at h hk
  exact ⟨b, off, _, rfl, h3, h4, by omega, h5 0 (by omega), h5 1 (by omega), h5 2 (by omega)⟩
theorem infoCut : (Tryz.prog.info? 67).map (fun i => (i.zero, i.size, i.bytes)) = some (some (.agg #[.int .i64 0, .int .i64 0, .int .i64 0]), 3, 24) := by kernel_rfl
def cuE (p : Int × Int) : Value := .agg #[.int .i64 p.1, .int .i64 p.2, .int .i64 0]
theorem cuE_inj (a b : Int × Int) (h : cuE a = cuE b) : a = b := by
  unfold cuE at h
  injection h with h
  have h1 := congrArg Array.toList h
  simp only at h1
  injection h1 with g1 h1
  injection h1 with g2 h1
  injection g1 with _ g1
  injection g2 with _ g2
  exact Prod.ext g1 g2
theorem cuKeyLaw : Go.WideMaps.KeyLaw Tryz.prog 67 := deep_law_laid (P := Tryz.prog) (by kernel_rfl) (m := 3) (by decide) (of_decide_eq_true (by kernel_rfl)) (by kernel_rfl) (by kernel_rfl)
theorem cuLaw : Keyed Tryz.prog 67 := Keyed.of_law cuKeyLaw
theorem cuKey {p : Int × Int} (h1 : I63 p.1) (h2 : I63 p.2) : ∃ l, keyOf Tryz.prog 67 (cuE p) = some l :=
  key3 (by kernel_rfl) (fun _ _ _ => by kernel_rfl) (by kernel_rfl) Tryz.underlying67 (by decide) (by decide) (by decide) h1 h2 (by constructor <;> decide)
end Go.Proofs.YtehadoecnmfeoaaGreat

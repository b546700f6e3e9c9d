/- Part 33 of this claim's texts: walks and plain laws. -/
import Derived.Test.YtehadoecnmfeoaaGreatRows
import Derived.Test.YtehadoecnmfeoaaGreatGBU32
import Derived.Sort.OwnSortedInts
import Derived.Shelf.GgSortFunc.InsertionK
import Derived.Laws.OwnMore
import Derived.Test.YtehadoecnmfeoaaGreatGBU2
import Derived.Test.YtehadoecnmfeoaaGreatGBU1
import Derived.Test.YtehadoecnmfeoaaGreatGBU3
import Derived.Test.YtehadoecnmfeoaaGreatGBU16
import Derived.Maps.RangeWalk
import Derived.WideKeyEntry
import Derived.DeepKeys4
/- What BuildCut asks of the pieces: plain laws. -/
namespace Go.Proofs.YtehadoecnmfeoaaGreat
open Go.RowKit
set_option linter.unusedVariables false
set_option linter.unusedSimpArgs false
/-- A sum over a list of pieces, each as often as it is counted. -/
def sumCt (g : Int → Int → Int) : List Ct → Int
  | [] => 0
  | a :: r => a.c * g a.s a.n + sumCt g r
def sumCp (g : Int → Int → Int) : List (Int × Int) → Int
  | [] => 0
  | p :: r => g p.1 p.2 + sumCp g r
theorem sumCp_snoc (g : Int → Int → Int) (p : Int × Int) : ∀ ps : List (Int × Int), sumCp g (ps ++ [p]) = sumCp g ps + g p.1 p.2
  | [] => by simp [sumCp]
  | q :: ps => by
    show g q.1 q.2 + sumCp g (ps ++ [p]) = g q.1 q.2 + sumCp g ps + g p.1 p.2
    rw [sumCp_snoc g p ps]
    omega
theorem sumCt_insC (g : Int → Int → Int) {x : Ct} (hx : x.c = 1) : ∀ o : List Ct, sumCt g (insC x o) = sumCt g o + g x.s x.n
  | [] => by simp [insC, sumCt, hx]
  | a :: r => by
    unfold insC
    split
    · show a.c * g a.s a.n + sumCt g (insC x r) = a.c * g a.s a.n + sumCt g r + g x.s x.n
      rw [sumCt_insC g hx r]
      omega
    · split
      · rename_i h
        obtain ⟨h1, h2⟩ := sameK_iff.1 h
        show (a.c + 1) * g a.s a.n + sumCt g r = a.c * g a.s a.n + sumCt g r + g x.s x.n
        rw [h1, h2, Int.add_mul, Int.one_mul]
        omega
      · show x.c * g x.s x.n + (a.c * g a.s a.n + sumCt g r) = a.c * g a.s a.n + sumCt g r + g x.s x.n
        rw [hx, Int.one_mul]
        omega
theorem sumCt_cutS (g : Int → Int → Int) (ps : List (Int × Int)) : sumCt g (cutS ps) = sumCp g ps := by
  generalize hn : ps.length = n
  induction n generalizing ps with
  | zero =>
    obtain rfl : ps = [] := by simpa using hn
    rfl
  | succ n ih =>
    obtain ⟨qs, p, rfl⟩ : ∃ qs p, ps = qs ++ [p] := ⟨ps.dropLast, ps.getLast (by intro h; rw [h] at hn; simp at hn), (List.dropLast_concat_getLast _).symm⟩
    rw [cutS_snoc, sumCt_insC g rfl, sumCp_snoc, ih qs (by simpa using hn)]
theorem sumCt_at (g : Int → Int → Int) : ∀ D : List Ct, sumN (fun k => (D.getD k Ct.o).c * g (D.getD k Ct.o).s (D.getD k Ct.o).n) D.length = sumCt g D := by
  intro D
  generalize hn : D.length = n
  induction n generalizing D with
  | zero =>
    obtain rfl : D = [] := by simpa using hn
    rfl
  | succ n ih =>
    obtain ⟨E, a, rfl⟩ : ∃ E a, D = E ++ [a] := ⟨D.dropLast, D.getLast (by intro h; rw [h] at hn; simp at hn), (List.dropLast_concat_getLast _).symm⟩
    have hE : E.length = n := by simpa using hn
    have h1 : sumCt g (E ++ [a]) = sumCt g E + a.c * g a.s a.n := by
      clear hn hE ih
      induction E with
      | nil => simp [sumCt]
      | cons b r ih =>
        show b.c * g b.s b.n + sumCt g (r ++ [a]) = b.c * g b.s b.n + sumCt g r + a.c * g a.s a.n
        rw [ih]
        omega
    rw [h1, ← ih E hE]
    show sumN _ n + _ = _
    have h2 : (E ++ [a]).getD n Ct.o = a := by
      rw [List.getD_eq_getElem?_getD, List.getElem?_append_right (by omega), hE, Nat.sub_self]
      rfl
    have h3 : sumN (fun k => ((E ++ [a]).getD k Ct.o).c * g ((E ++ [a]).getD k Ct.o).s ((E ++ [a]).getD k Ct.o).n) n = sumN (fun k => (E.getD k Ct.o).c * g (E.getD k Ct.o).s (E.getD k Ct.o).n) n := sumN_congr fun k hk => by
      have h4 : (E ++ [a]).getD k Ct.o = E.getD k Ct.o := by
        rw [List.getD_eq_getElem?_getD, List.getD_eq_getElem?_getD, List.getElem?_append_left (by omega)]
      rw [h4]
    rw [h3]
    show _ + ((E ++ [a]).getD n Ct.o).c * g ((E ++ [a]).getD n Ct.o).s ((E ++ [a]).getD n Ct.o).n = _
    rw [h2]
/-- Whether a wire is there for a variant and has a length. -/
noncomputable def cutB (l : Lo) (x : List Bool) (i : Nat) : Bool := inB l x i && decide (0 < lenW l i)
theorem inB_ev {l : Lo} (ok : LoOk l) {v : List Bool} (hv : v.length = l.m.opts.length) {i : Nat} (hi : i < l.ws.length) : inB l v i = evF1 (vf v) (fmW l i) := by
  have h1 := (ok.wi hi).2
  have h2 : l.m.errF [(l.ws.getD i Wi.o).form] = 0 := by
    generalize l.ws.getD i Wi.o = x at h1
    unfold Mo.errF
    rw [if_neg (by simp [ok.m]), if_neg (by simp [h1])]
  have h3 : holE l.m (l.ws.getD i Wi.o).form v = 0 := by
    generalize l.ws.getD i Wi.o = x at h2
    unfold holE; rw [if_neg (by simp [h2]), if_neg (by simp [hv])]
  unfold inB holB
  rw [if_pos h3]
  rfl
theorem cutP_eq (l : Lo) (x : List Bool) (m : Nat) : cutK l (belK l x m) (belK l x m).length = ((List.range m).filter fun i => evF1 (vf x) (fmW l i) && decide (0 < lenW l i)).map (pcI l) := by
  unfold cutK belK
  rw [List.take_length, List.filter_filter]
  congr 1
  exact List.filter_congr fun i _ => by rw [Bool.and_comm]
theorem sumCp_cut {l : Lo} (ok : LoOk l) {x : List Bool} (hx : x.length = l.m.opts.length) (g : Int → Int → Int) : ∀ {m : Nat}, m ≤ l.ws.length →
    sumCp g (((List.range m).filter fun i => evF1 (vf x) (fmW l i) && decide (0 < lenW l i)).map (pcI l)) = sumN (fun i => if cutB l x i = true then g (l.ws.getD i Wi.o).size (lenW l i) else 0) m
  | 0, _ => rfl
  | m + 1, hm => by
    rw [List.range_succ, List.filter_append, List.map_append]
    show _ = sumN _ m + _
    rw [← sumCp_cut ok hx g (m := m) (by omega)]
    have h1 : cutB l x m = (evF1 (vf x) (fmW l m) && decide (0 < lenW l m)) := by
      unfold cutB
      rw [inB_ev ok hx (by omega)]
    show _ = _ + (if cutB l x m = true then _ else _)
    by_cases h2 : cutB l x m = true
    · rw [if_pos h2]
      have h3 : (evF1 (vf x) (fmW l m) && decide (0 < lenW l m)) = true := by rw [← h1]; exact h2
      rw [List.filter_cons, if_pos h3]
      exact sumCp_snoc g (pcI l m) _
    · rw [if_neg h2]
      have h3 : ¬ (evF1 (vf x) (fmW l m) && decide (0 < lenW l m)) = true := by rw [← h1]; exact h2
      rw [List.filter_cons, if_neg h3]
      simp
theorem cut_sums {l : Lo} {x : List Bool} (h : copE l x = 0) (g : Int → Int → Int) :
    sumN (fun k => ((cutL l x).getD k Ct.o).c * g ((cutL l x).getD k Ct.o).s ((cutL l x).getD k Ct.o).n) (cutL l x).length = sumN (fun i => if cutB l x i = true then g (l.ws.getD i Wi.o).size (lenW l i) else 0) l.ws.length := by
  obtain ⟨ok, hx⟩ := copE_ok h
  rw [sumCt_at, cutL_ok h, sumCt_cutS]
  unfold cutP belL
  rw [cutP_eq, sumCp_cut ok hx g (Nat.le_refl _)]
def cutQ (D : List Ct) (k : Nat) : Int := (D.getD k Ct.o).c
def cutV (D : List Ct) (k : Nat) : Int := (D.getD k Ct.o).c * (D.getD k Ct.o).s * (D.getD k Ct.o).n
noncomputable def cutW (l : Lo) (x : List Bool) (i : Nat) : Int := if cutB l x i = true then 1 else 0
/-- As many pieces as there are wires with a length; their copper is the variant's. -/
theorem cut_count {l : Lo} {x : List Bool} (h : copE l x = 0) : sumN (cutQ (cutL l x)) (cutL l x).length = sumN (cutW l x) l.ws.length := by
  show sumN (fun k => ((cutL l x).getD k Ct.o).c) (cutL l x).length = sumN (fun i => if cutB l x i = true then 1 else 0) l.ws.length
  rw [← cut_sums h fun _ _ => 1]
  exact sumN_congr fun k _ => by simp
theorem cut_copper {l : Lo} {x : List Bool} (h : copE l x = 0) : sumN (cutV (cutL l x)) (cutL l x).length = copN l x := by
  show sumN (fun k => ((cutL l x).getD k Ct.o).c * ((cutL l x).getD k Ct.o).s * ((cutL l x).getD k Ct.o).n) (cutL l x).length = copN l x
  obtain ⟨ok, hx⟩ := copE_ok h
  have h1 := cut_sums h fun s n => s * n
  have h2 : sumN (fun k => ((cutL l x).getD k Ct.o).c * ((cutL l x).getD k Ct.o).s * ((cutL l x).getD k Ct.o).n) (cutL l x).length = sumN (fun k => ((cutL l x).getD k Ct.o).c * (((cutL l x).getD k Ct.o).s * ((cutL l x).getD k Ct.o).n)) (cutL l x).length := sumN_congr fun k _ => Int.mul_assoc _ _ _
  rw [h2, h1]
  unfold copN
  rw [if_pos h]
  refine sumN_congr fun i hi => ?_
  unfold copF cutB
  by_cases h3 : inB l x i = true
  · rw [if_pos h3]
    have h4 := (ok.dist (x := endF l i) (z := endT l i)).1
    have h4 : 0 ≤ lenW l i := h4
    by_cases h5 : 0 < lenW l i
    · rw [if_pos (by simp [h3, h5]), Int.mul_comm]
    · have h6 : lenW l i = 0 := by omega
      rw [if_neg (by simp [h5]), h6, Int.zero_mul]
  · rw [if_neg h3, if_neg (by simp [h3])]
/-- Every piece of the list. -/
structure CutD (D : List Ct) : Prop where
  len : D.length ≤ 60
  bd : ∀ k, k < D.length → 1 ≤ (D.getD k Ct.o).s ∧ (D.getD k Ct.o).s ≤ 10000 ∧ 1 ≤ (D.getD k Ct.o).n ∧ (D.getD k Ct.o).n ≤ 40000000 ∧ 1 ≤ (D.getD k Ct.o).c ∧ (D.getD k Ct.o).c ≤ 60
  asc : ∀ k, k + 1 < D.length → (D.getD k Ct.o).s < (D.getD (k + 1) Ct.o).s ∨ ((D.getD k Ct.o).s = (D.getD (k + 1) Ct.o).s ∧ (D.getD k Ct.o).n < (D.getD (k + 1) Ct.o).n)
theorem cutS_le2 (ps : List (Int × Int)) : (cutS ps).length ≤ ps.length := by
  generalize hn : ps.length = n
  induction n generalizing ps with
  | zero =>
    obtain rfl : ps = [] := by simpa using hn
    exact Nat.le_refl _
  | succ n ih =>
    obtain ⟨qs, p, rfl⟩ : ∃ qs p, ps = qs ++ [p] := ⟨ps.dropLast, ps.getLast (by intro h; rw [h] at hn; simp at hn), (List.dropLast_concat_getLast _).symm⟩
    have h1 := cutS_len qs p
    have h2 := ih qs (by simpa using hn)
    omega
theorem cutL_D {l : Lo} {x : List Bool} (h : copE l x = 0) : CutD (cutL l x) := by
  obtain ⟨ok, hx⟩ := copE_ok h
  have hp : (cutP l x).length ≤ 60 := Nat.le_trans (cutK_len l _ _) (Nat.le_trans (belK_le l x _) ok.w60)
  have hI := cutS_is (cutP l x)
  rw [cutL_ok h]
  refine ⟨Nat.le_trans (cutS_le2 _) hp, fun k hk => ?_, fun k hk => ?_⟩
  · have hm : (cutS (cutP l x)).getD k Ct.o ∈ cutS (cutP l x) := getD_mem7 hk
    generalize (cutS (cutP l x)).getD k Ct.o = a at hm ⊢
    obtain ⟨h1, h2⟩ := (cutI_mem hI a).1 hm
    have h3 := cntC_pos.2 h2
    have h4 := cntC_le (cutP l x) a.s a.n
    have h5 : ∃ i, i < l.ws.length ∧ 0 < lenW l i ∧ pcI l i = (a.s, a.n) := by
      unfold cutP at h2
      unfold belL at h2
      rw [cutP_eq, List.mem_map] at h2
      obtain ⟨i, h6, h7⟩ := h2
      rw [List.mem_filter, List.mem_range] at h6
      exact ⟨i, h6.1, by have h7 := h6.2; simp only [Bool.and_eq_true, decide_eq_true_eq] at h7; exact h7.2, h7⟩
    obtain ⟨i, hi, hl, he⟩ := h5
    have h8 := pcI_bd ok hi
    have h9 : lenW l i = a.n := congrArg Prod.snd he
    rw [he] at h8
    simp only at h8
    omega
  · have h1 := List.pairwise_iff_getElem.1 hI.so k (k + 1) (by omega) hk (by omega)
    rw [List.getD_eq_getElem?_getD, List.getD_eq_getElem?_getD, List.getElem?_eq_getElem (by omega), List.getElem?_eq_getElem hk]
    exact ltK_iff.1 h1
/-- The sums on the way. -/
theorem CutD.cnt {D : List Ct} (h : CutD D) : ∀ {k : Nat}, k ≤ D.length → 0 ≤ sumN (cutQ D) k ∧ sumN (cutQ D) k ≤ (k : Int) * 60
  | 0, _ => by simp [sumN]
  | k + 1, hk => by
    have h1 := h.cnt (k := k) (by omega)
    have h2 := h.bd k (by omega)
    show 0 ≤ sumN _ k + (D.getD k Ct.o).c ∧ sumN _ k + (D.getD k Ct.o).c ≤ _
    generalize sumN _ k = z at h1 ⊢
    generalize D.getD k Ct.o = a at h2 ⊢
    omega
theorem ct_prod {a : Ct} (h : 1 ≤ a.s ∧ a.s ≤ 10000 ∧ 1 ≤ a.n ∧ a.n ≤ 40000000 ∧ 1 ≤ a.c ∧ a.c ≤ 60) : (0 ≤ a.c * a.s ∧ a.c * a.s ≤ 600000) ∧ 0 ≤ a.c * a.s * a.n ∧ a.c * a.s * a.n ≤ 24000000000000 := by
  have h1 := pos_bd (x := a.c) (y := a.s) (c := 60) (d := 10000) (by omega) (by omega) (by omega) (by omega)
  have h2 := pos_bd (x := a.c * a.s) (y := a.n) (c := 600000) (d := 40000000) h1.1 (by omega) (by omega) (by omega)
  omega
theorem CutD.cop {D : List Ct} (h : CutD D) : ∀ {k : Nat}, k ≤ D.length → 0 ≤ sumN (cutV D) k ∧ sumN (cutV D) k ≤ (k : Int) * 24000000000000
  | 0, _ => by simp [sumN]
  | k + 1, hk => by
    have h1 := h.cop (k := k) (by omega)
    have h2 := ct_prod (h.bd k (by omega))
    show 0 ≤ sumN _ k + (D.getD k Ct.o).c * (D.getD k Ct.o).s * (D.getD k Ct.o).n ∧ sumN _ k + (D.getD k Ct.o).c * (D.getD k Ct.o).s * (D.getD k Ct.o).n ≤ _
    generalize sumN _ k = z at h1 ⊢
    generalize D.getD k Ct.o = a at h2 ⊢
    generalize a.c * a.s * a.n = y at h2 ⊢
    omega
theorem cutB_bd (l : Lo) (x : List Bool) : ∀ m, 0 ≤ sumN (cutW l x) m ∧ sumN (cutW l x) m ≤ m
  | 0 => by simp [sumN]
  | m + 1 => by
    have h1 := cutB_bd l x m
    show 0 ≤ sumN _ m + (if cutB l x m = true then (1 : Int) else 0) ∧ sumN _ m + (if cutB l x m = true then (1 : Int) else 0) ≤ _
    generalize sumN _ m = z at h1 ⊢
    split <;> omega
end Go.Proofs.YtehadoecnmfeoaaGreat
/- Rows of elements of some cells each, and the library's sort over them. -/
namespace Go.Proofs.YtehadoecnmfeoaaGreat
open Go.RowKit Go.Sort
set_option linter.unusedVariables false
set_option linter.unusedSimpArgs false
section
variable {α : Type} (enc : α → List Value)
/-- The cells of a list. -/
def rowV (L : List α) : List Value := L.flatMap enc
variable {enc}
theorem rowV_snoc (L : List α) (a : α) : rowV enc (L ++ [a]) = rowV enc L ++ enc a := by simp [rowV]
theorem rowV_len {k : Nat} (hk : ∀ a, (enc a).length = k) : ∀ L : List α, (rowV enc L).length = L.length * k
  | [] => by simp [rowV]
  | a :: L => by
    show (enc a ++ rowV enc L).length = _
    rw [List.length_append, hk, rowV_len hk L, List.length_cons, Nat.succ_mul, Nat.add_comm]
theorem rowV_get {k : Nat} (hk : ∀ a, (enc a).length = k) (z : α) : ∀ {L : List α} {i j : Nat}, i < L.length → j < k → (rowV enc L)[i * k + j]? = (enc (L.getD i z))[j]?
  | a :: L, 0, j, _, hj => by
    show (enc a ++ rowV enc L)[0 * k + j]? = _
    rw [List.getElem?_append_left (by rw [hk]; omega), Nat.zero_mul, Nat.zero_add]
    rfl
  | a :: L, i + 1, j, hi, hj => by
    show (enc a ++ rowV enc L)[(i + 1) * k + j]? = _
    rw [List.getElem?_append_right (by rw [hk, Nat.succ_mul]; omega), hk, show (i + 1) * k + j - k = i * k + j by rw [Nat.succ_mul]; omega, rowV_get hk z (by simpa using hi) hj]
    rfl
/-- Some cells changed. -/
def setAll (Fc : List Value) : Nat → List Value → List Value
  | _, [] => Fc
  | s, v :: r => setAll (Fc.set s v) (s + 1) r
theorem flatK_row [Inhabited α] {k : Nat} (hk : ∀ a, (enc a).length = k) (L : List α) : flatK enc k L.toArray = (rowV enc L).toArray := by
  rcases Nat.eq_zero_or_pos k with h0 | h0
  · have e2 : rowV enc L = [] := List.length_eq_zero_iff.1 (by rw [rowV_len hk, h0, Nat.mul_zero])
    rw [e2]
    refine Array.eq_empty_of_size_eq_zero ?_
    rw [size_flatK, h0, Nat.mul_zero]
  refine Array.ext (by rw [size_flatK]; simp [rowV_len hk]) fun t h1 h2 => ?_
  have ht : t < L.length * k := by simpa using h1
  have e1 : t / k < L.length := Nat.div_lt_of_lt_mul (by rw [Nat.mul_comm]; exact ht)
  have e3 : t % k < k := Nat.mod_lt _ h0
  have g2 : (rowV enc L)[t]? = (enc (L.getD (t / k) default))[t % k]? := by
    conv => lhs; rw [show t = t / k * k + t % k from (Nat.div_add_mod' t k).symm]
    exact rowV_get hk default e1 e3
  have g3 := get_flatK enc k L.toArray t (by simpa using ht)
  rw [getElem!_pos (flatK enc k L.toArray) t h1] at g3
  rw [g3]
  have e4 : (L.toArray)[t / k]! = L.getD (t / k) default := by
    rw [getElem!_pos L.toArray (t / k) (by simpa using e1), List.getD_eq_getElem?_getD, List.getElem?_eq_getElem e1]
    simp
  rw [e4]
  have e5 : t % k < (enc (L.getD (t / k) default)).length := by rw [hk]; exact e3
  rw [getElem!_pos (enc (L.getD (t / k) default)) (t % k) e5]
  have e6 : (rowV enc L).toArray[t] = (rowV enc L)[t]'(by simpa using h2) := by simp
  rw [e6]
  rw [List.getElem?_eq_getElem (by simpa using h2), List.getElem?_eq_getElem e5] at g2
  injection g2 with g2
  exact g2.symm
end
/-- The cells of an own row, as the sort wants them. -/
theorem holds_row {w : World} {g : Nat} {cur : Array Value} {e : TypeId} {Fc : List Value} (hb : w.heap[g]? = some (.cells cur e (0, 0))) (ht : cur.toList.take Fc.length = Fc) : Holds id w g 0 Fc.toArray := by
  intro j hj
  have hj' : j < Fc.length := by simpa using hj
  refine ⟨?_, by simp [World.frozen?, hb]⟩
  have h1 : (cur.toList.take Fc.length)[j]? = Fc[j]? := by rw [ht]
  rw [List.getElem?_take_of_lt hj'] at h1
  simp only [World.cell?, hb, Nat.zero_add]
  simp only [Option.isSome_none, Bool.false_eq_true, if_false]
  rw [← Array.getElem?_toList, h1]
  simp [hj']
theorem heap_sortedV {w : World} {g n : Nat} {os : Array Obj} {cur : Array Value} {e : TypeId} {fr : Nat × Nat} (d : Array Value) (hb : w.heap[g]? = some (.cells cur e fr)) :
    (grow (putRow id (Sort.ahead w n) g 0 d) os).heap[g]? = some (.cells (putCells id 0 d cur) e fr) := by
  have hg : g < w.heap.size := (Array.getElem?_eq_some_iff.1 hb).1
  rw [heap_grow_old _ _ (by simpa using hg)]
  simp [putRow, mapBlock, Sort.ahead, Array.getElem?_modify, hb, onCells]
theorem grownBy_sortedV {w : World} {g n : Nat} {os : Array Obj} (d : Array Value) : w.grownBy (grow (putRow id (Sort.ahead w n) g 0 d) os) (some g) := by
  refine ⟨rfl, rfl, rfl, by simp, fun k hk hne => ?_⟩
  rw [heap_grow_old _ _ (by simpa using hk)]
  have : g ≠ k := fun e => hne (by rw [e])
  simp [putRow, mapBlock, Sort.ahead, Array.getElem?_modify, this]
theorem take_putCellsV (cur : Array Value) (ts : List Value) (h : ts.length ≤ cur.size) : (putCells id 0 ts.toArray cur).toList.take ts.length = ts := by
  apply List.ext_getElem?
  intro j
  by_cases hj : j < ts.length
  · rw [List.getElem?_take_of_lt hj, Array.getElem?_toList]
    simp [putCells, hj, show j < cur.size by omega]
  · rw [List.getElem?_take_eq_none (by omega), List.getElem?_eq_none (by omega)]
/-- Behind the sort the same slice owns the sorted cells. -/
theorem ownsRow_sortedV {w : World} {base g cap n size m : Nat} {e : TypeId} {os : Array Obj} {cur : Array Value} {Fc : List Value} (hF : Fc.length = n * size) (hbase : base ≤ g) (hb : w.heap[g]? = some (.cells cur e (0, 0)))
    (h1 : n ≤ cap) (h2 : cap ≤ maxLen) (h3 : cur.size = cap * size) :
    (grow (putRow id (Sort.ahead w m) g 0 Fc.toArray) os).ownsRow base e size (.slice (some ⟨g, 0, none⟩) n cap) n Fc :=
  ⟨hF, .inr ⟨g, cap, _, rfl, hbase, heap_sortedV _ hb, h1, h2, by simp [putCells, h3], by
    rw [← hF]
    refine take_putCellsV cur Fc ?_
    rw [h3, hF]
    exact Nat.mul_le_mul_right _ h1⟩⟩
/-- What the sort leaves: a permutation, in order. -/
theorem perm_list {α : Type} [Inhabited α] {L : List α} {d' : Array α} (h : PermIn 0 L.toArray.size L.toArray d') : d'.toList.Perm L := by
  obtain ⟨h1, _, h3⟩ := h
  have e1 : d'.extract 0 L.toArray.size = d' := by rw [← h1]; exact Array.extract_size
  have e2 : L.toArray.extract 0 L.toArray.size = L.toArray := Array.extract_size
  rw [e1, e2] at h3
  simpa using h3
theorem sorted_list {α : Type} [Inhabited α] {lt : α → α → Bool} {n : Nat} {d' : Array α} (hn : d'.size = n) (h : SortedIn lt 0 n d') (z : α) : ∀ i j, i < j → j < d'.toList.length → lt (d'.toList.getD j z) (d'.toList.getD i z) = false := by
  intro i j hij hj
  have hj' : j < d'.size := by simpa using hj
  have h1 := h i j (Nat.zero_le _) hij (by omega)
  rw [getElem!_pos d' j hj', getElem!_pos d' i (show i < d'.size by omega)] at h1
  rw [List.getD_eq_getElem?_getD, List.getD_eq_getElem?_getD, List.getElem?_eq_getElem (by simpa using hj'), List.getElem?_eq_getElem (by simpa using (show i < d'.size by omega))]
  simpa using h1
end Go.Proofs.YtehadoecnmfeoaaGreat
/- A map of counts in memory, gone through in the order that nobody knows; lists of what has to be cut. -/
namespace Go.Proofs.YtehadoecnmfeoaaGreat
open Go.RowKit Go.Maps
open Go.Maps (Keyed)
open Go.ChangeMaps Go.MapKept Go.WideShapes
set_option linter.unusedVariables false
set_option linter.unusedSimpArgs false
theorem okw_inj {β : Type} {a b : β} {u v : World} (h : (Result.ok a u : Result β) = .ok b v) : a = b ∧ u = v := by
  injection h with h1 h2
  exact ⟨h1, h2⟩
section
variable {α : Type} {P : Program} {w : World} {k e b n : Nat} {enc : α → Value} {m : α → Option Int}
/-- Block b is a map that holds the number m a at the key enc a, where there is one, and nothing else. -/
def MapAll (P : Program) (w : World) (k e b n : Nat) (enc : α → Value) (m : α → Option Int) : Prop :=
  ∃ D : DataW Unit, w.ownsMap P k (plainElem P e) b n D ∧ (∀ a l, keyOf P k (enc a) = some l →
    (m a = none → Maps.has D l = false) ∧ ∀ x, m a = some x → Maps.has D l = true ∧ D.atKey l (.lit (.int .i64 0)) = .lit (.int .i64 x)) ∧ ∀ l, Maps.has D l = true → ∃ a x, keyOf P k (enc a) = some l ∧ m a = some x
theorem MapAll.is (h : MapAll P w k e b n enc m) : MapIs P w k e b n enc m := by
  obtain ⟨D, h1, h2, _⟩ := h
  exact ⟨D, h1, h2⟩
theorem MapAll.made (P : Program) (w : World) (k e : Nat) (enc : α → Value) : MapAll P (w.alloc (.map #[] 0)) k e w.heap.size 0 enc (fun _ => none) :=
  ⟨_, World.ownsMap_made w P k _, fun a l _ => ⟨fun _ => rfl, fun x h => by cases h⟩, fun l h => by cases h⟩
theorem MapAll.mono (h : MapAll P w k e b n enc m) {n' : Nat} (hn : n ≤ n') : MapAll P w k e b n' enc m := by
  obtain ⟨D, h1, h2⟩ := h
  exact ⟨D, h1.mono hn, h2⟩
theorem MapAll.same {w' : World} (h : MapAll P w k e b n enc m) (hb : w'.heap[b]? = w.heap[b]?) : MapAll P w' k e b n enc m := by
  obtain ⟨D, ⟨es, c, h0, h1⟩, h2⟩ := h
  exact ⟨D, ⟨es, c, hb.trans h0, h1⟩, h2⟩
theorem MapAll.lt (h : MapAll P w k e b n enc m) : b < w.heap.size := h.is.lt
theorem MapAll.put' [DecidableEq α] (K : Keyed P k) (hinj : ∀ a a', enc a = enc a' → a = a') {D : DataW Unit} (h1 : w.ownsMap P k (plainElem P e) b n D) (h2 : ∀ a l, keyOf P k (enc a) = some l →
    (m a = none → Maps.has D l = false) ∧ ∀ x, m a = some x → Maps.has D l = true ∧ D.atKey l (.lit (.int .i64 0)) = .lit (.int .i64 x)) (hall : ∀ l, Maps.has D l = true → ∃ a x, keyOf P k (enc a) = some l ∧ m a = some x) {a : α} {l : Lit} (hkey : keyOf P k (enc a) = some l) (x : Int) {w' : World} (h3 : w'.ownsMap P k (plainElem P e) b (n + 1) (D.put l (.lit (.int .i64 x)))) :
    MapAll P w' k e b (n + 1) enc (putM m a x) := by
  refine ⟨_, h3, fun a' l' hk' => ?_, fun l' hl' => ?_⟩
  · unfold putM
    by_cases ha : a' = a
    · subst ha
      rw [hkey] at hk'
      injection hk' with hk'
      subst hk'
      rw [if_pos rfl]
      exact ⟨fun h => (by cases h), fun y hy => by
        injection hy with hy
        subst hy
        exact ⟨Maps.has_put_same h1.isMap (K.key hkey) _, Maps.atKey_put_same h1.isMap (K.key hkey) _ _⟩⟩
    · rw [if_neg ha]
      have hl : l' ≠ l := fun e => by
        subst e
        exact ha (hinj _ _ (K.inj hk' hkey))
      obtain ⟨h4, h5⟩ := h2 a' l' hk'
      refine ⟨fun h => (Maps.has_put_other hl _).trans (h4 h), fun y hy => ?_⟩
      obtain ⟨h6, h7⟩ := h5 y hy
      exact ⟨(Maps.has_put_other hl _).trans h6, (Maps.atKey_put_other hl _ _).trans h7⟩
  · by_cases hl : l' = l
    · subst hl
      exact ⟨a, x, hkey, by unfold putM; rw [if_pos rfl]⟩
    · rw [Maps.has_put_other hl] at hl'
      obtain ⟨a', x', h4, h5⟩ := hall l' hl'
      refine ⟨a', x', h4, ?_⟩
      unfold putM
      rw [if_neg, h5]
      intro e
      subst e
      rw [hkey] at h4
      injection h4 with h4
      exact hl h4.symm
set_option maxRecDepth 100000 in
/-- A store into the map at a key: first its entry, then the number. What the entry leaves reads as before. -/
theorem MapAll.entry [DecidableEq α] {t : Nat} (h : MapAll P w k e b n enc m) (K : Keyed P k) (KL : Go.WideMaps.KeyLaw P k) (ht : P.underlying t = some (.map k e)) (he : P.underlying e = some (.int .i64)) (hz : ∀ u : World, (zeroValue e).run P u = .ok (.int .i64 0) u) (hinj : ∀ a a', enc a = enc a' → a = a') (hn : n < maxLen) {a : α} {l : Lit} (hkey : keyOf P k (enc a) = some l) :
    ∃ (v0 : Value) (st : Nat) (w1 : World), (Instr.mapEntry t (.map (some b)) (enc a)).run P w = .ok (.tuple #[v0, goInt st]) w1 ∧ w.grownBy w1 (some b) ∧ w1.heap.size = w.heap.size ∧
      (∀ w2 : World, w2.heap[b]? = w1.heap[b]? → (Instr.lookup t (.map (some b)) (enc a) false).run P w2 = .ok (.int .i64 ((m a).getD 0)) w2) ∧
      ∀ (w2 : World) (x : Int), (Lit.int .i64 x).wf = true → w2.heap[b]? = w1.heap[b]? → ∃ w3, (Instr.entryStore t (.map (some b)) (goInt st) (.int .i64 x)).run P w2 = .ok () w3 ∧ MapAll P w3 k e b (n + 1) enc (putM m a x) ∧ w2.grownBy w3 (some b) := by
  obtain ⟨D, h1, h2, h3⟩ := h
  have hown := h1
  obtain ⟨es, clock, hb, F, hsz, hD⟩ := h1
  obtain ⟨v0, st, es1, clock1, hrun, hv0, hst⟩ := Go.WideElems.entry_then_store KL ht hz hb F hkey
  refine ⟨v0, st, setBlock w b (.map es1 clock1), hrun, ⟨rfl, rfl, rfl, by simp [setBlock], fun i _ hi => (MapKept.heap_set (o' := .map es1 clock1) hb).2 i (fun e1 => hi (by rw [e1]))⟩, by simp [setBlock], fun w2 hw2 => ?_, fun w2 x hx hw2 => ?_⟩
  · have hMI : MapIs P w k e b n enc m := ⟨D, hown, h2⟩
    rcases KL.find w hkey es.toList F.keys with ⟨f1, f2⟩ | ⟨j, e0, f1, f2, f3⟩
    · have hrun2 : (Instr.mapEntry t (.map (some b)) (enc a)).run P w = .ok (.tuple #[.int .i64 0, goInt clock]) (setBlock w b (.map (es.push ⟨enc a, .int .i64 0, clock⟩) (clock + 1))) := by
        simp [Instr.mapEntry, run_underlying ht, MapKept.run_getObj_map hb, KL.check w false hkey, f1, hz, MapKept.run_setObj_map _ hb, Result.andThen, setBlock]
      have e2 := (okw_inj (hrun.symm.trans hrun2)).2
      obtain ⟨w', hu, h4, _⟩ := hown.update K ht hn hkey (plainElem_int he (show (Lit.int .i64 0).wf = true by decide))
      have hu2 : (Instr.mapUpdate t (.map (some b)) (enc a) (.int .i64 0)).run P w = .ok () (setBlock w b (.map (es.push ⟨enc a, .int .i64 0, clock⟩) (clock + 1))) := by
        simp [Instr.mapUpdate, run_underlying ht, MapKept.run_getObj_map hb, KL.check w false hkey, f1, MapKept.run_setObj_map _ hb, Result.andThen, setBlock]
      have e3 := (okw_inj (hu.symm.trans hu2)).2
      have hM2 : MapIs P w2 k e b (n + 1) enc (putM m a 0) := (MapIs.put' K hinj hown h2 hkey 0 h4).same (hw2.trans (by rw [e2, ← e3]))
      have hl2 := hM2.look1 K ht he (hz w2) hkey
      have hl1 := hMI.look1 K ht he (hz w) hkey
      have hl0 : (Instr.lookup t (.map (some b)) (enc a) false).run P w = .ok (.int .i64 0) w := by
        simp [Instr.lookup, run_underlying ht, MapKept.run_getObj_map hb, KL.check w es.isEmpty hkey, f1, hz, Result.andThen]
      have hl1 := (okw_inj (hl0.symm.trans hl1)).1
      have hl1 : (0 : Int) = (m a).getD 0 := by
        revert hl1
        generalize (m a).getD 0 = q
        intro hl1
        injection hl1
      rw [hl2, ← hl1]
      unfold putM
      rw [if_pos rfl]
      rfl
    · have hj : es[j]? = some e0 := by simpa using f2
      have hsame : es.modify j (fun e => { e with key := enc a }) = es := by
        apply Array.ext'
        rw [Array.toList_modify, Go.ChangeMaps.modify_eq_set _ _ _ _ f2]
        have : ({ e0 with key := enc a } : MapEntry) = e0 := by rw [← f3]
        rw [this]
        exact Go.WideElems.set_self _ _ _ f2
      have hrun2 : (Instr.mapEntry t (.map (some b)) (enc a)).run P w = .ok (.tuple #[e0.val, goInt e0.born]) (setBlock w b (.map es clock)) := by
        simp [Instr.mapEntry, run_underlying ht, MapKept.run_getObj_map hb, KL.check w false hkey, f1, hj, f3, KL.stays w hkey, hsame, MapKept.run_setObj_map _ hb, Result.andThen, setBlock]
      have e2 := (okw_inj (hrun.symm.trans hrun2)).2
      have hbw : (setBlock w b (.map es clock)).heap[b]? = w.heap[b]? := (MapKept.heap_set (o' := .map es clock) hb).1.trans hb.symm
      have hM2 : MapIs P w2 k e b n enc m := hMI.same (hw2.trans (by rw [e2]; exact hbw))
      exact hM2.look1 K ht he (hz w2) hkey
  · have hw2' : w2.heap[b]? = some (.map es1 clock1) := hw2.trans (MapKept.heap_set (o' := .map es1 clock1) hb).1
    obtain ⟨es', clock', g1, g2⟩ := hst w2 (.int .i64 x) hw2'
    obtain ⟨w', hu, h4, _⟩ := hown.update K ht hn hkey (plainElem_int he hx)
    have e3 := (okw_inj (hu.symm.trans g2)).2
    refine ⟨_, g1, (MapAll.put' K hinj hown h2 h3 hkey x h4).same ?_, ⟨rfl, rfl, rfl, by simp [setBlock], fun i _ hi => (MapKept.heap_set (o' := .map es' clock') hw2').2 i (fun e1 => hi (by rw [e1]))⟩⟩
    rw [e3]
    exact (MapKept.heap_set (o' := .map es' clock') hw2').1.trans (MapKept.heap_set (o' := .map es' clock') hb).1.symm
end
section
variable {α : Type} {P : Program}
/-- A step of a range over such a map. -/
theorem wpList_next_all (w : World) {ops : Array Oper} {rest : List Oper} {o : Oper} {ac : Act} {Q : Exit → Act → World → Prop} (hg : o.guard = none) (it : Operand) (hop : o.op = Op.next it false) {k e b r n cnt : Nat} (K : Keyed P k) (he : P.underlying e = some (.int .i64)) {enc : α → Value} {m : α → Option Int} {D : DataW Unit} {left : Lit → Bool}
    (hD : ∀ a l, keyOf P k (enc a) = some l → ∀ x, m a = some x → D.atKey l (.lit (.int .i64 0)) = .lit (.int .i64 x)) (hall : ∀ l, left l = true → ∃ a x, keyOf P k (enc a) = some l ∧ m a = some x)
    (hit : ac.eval it = .pointer (some ⟨r, 0, none⟩)) (h : w.ranges P k (plainElem P e) b r n D left cnt)
    (hDone : (∀ kl, left kl = false) → wpList P ops Q rest (ac.put o.dst (.tuple #[.bool false])) w)
    (hMore : ∀ (a : α) (x : Int) (kl : Lit) (w' : World) (cnt' : Nat), keyOf P k (enc a) = some kl → left kl = true → m a = some x → w'.ranges P k (plainElem P e) b r n D (fun z => left z && !z.sameKey kl) cnt' → cnt' < cnt →
      w.grownBy w' (some r) → w'.heap.size = w.heap.size → (Instr.entry (.pointer (some ⟨r, 0, none⟩))).run P w' = .ok (.tuple #[enc a, .int .i64 x]) w' → wpList P ops Q rest (ac.put o.dst (.tuple #[.bool true, enc a, .int .i64 x])) w') :
    wpList P ops Q (o :: rest) ac w := by
  refine wpList_plain hg fun K' hK' => ?_
  unfold Oper.wp
  rcases h.next K o.type with ⟨h0, hl, hrun⟩ | ⟨key, v, kl, y, w', cnt', hkey, hlk, hv, hat, hrun, hrg, hlt, hgr, hsz, hen⟩
  · simp [execOp, hop, hit, hrun, Result.andThen]
    exact hK' _ _ (hDone hl)
  · obtain ⟨a, x, h1, h2⟩ := hall kl hlk
    have e1 := K.inj hkey h1
    subst e1
    obtain ⟨c, rfl, hc, _⟩ := plainElem_int_inv he hv
    have h3 := hD a kl h1 x h2
    rw [hat, hc] at h3
    injection h3 with h3
    injection h3 with _ h3
    subst h3
    simp [execOp, hop, hit, hrun, Result.andThen]
    exact hK' _ _ (hMore a c kl w' cnt' hkey hlk h2 hrg hlt hgr hsz hen)
end
/-- What has to be cut, in memory. -/
def ctE (a : Ct) : List Value := [.int .i64 a.s, .int .i64 a.n, .int .i64 a.c]
theorem ctE_len (a : Ct) : (ctE a).length = 3 := rfl
def ctF (a : Ct) (j : Nat) : Value := match j with
  | 0 => .int .i64 a.s
  | 1 => .int .i64 a.n
  | _ => .int .i64 a.c
theorem ctE_get (a : Ct) {j : Nat} (hj : j < 3) : (ctE a)[j]? = some (ctF a j) := by
  match j, hj with
  | 0, _ => rfl
  | 1, _ => rfl
  | 2, _ => rfl
def Cts (w : World) (B : Nat) (v : Value) (L : List Ct) : Prop := Sl w B 3 v L.length (fun i j => ctF (L.getD i Ct.o) j)
theorem Cts.of_own {w : World} {B e : Nat} {v : Value} {L : List Ct} (h : w.ownsRow B e 3 v L.length (rowV ctE L)) : Cts w w.heap.size v L :=
  Sl.of_owns h fun i j hi hj => (rowV_get ctE_len Ct.o hi hj).trans (ctE_get _ hj)
theorem Cts.at {w : World} {B : Nat} {A : Option Addr} {m q : Nat} {L : List Ct} (h : Cts w B (.slice A m q) L) {k : Nat} (hk : k < L.length) : ∃ b off a, Hid (L.getD k Ct.o = a) ∧ A = some ⟨b, off, none⟩ ∧ b < B ∧ L.length ≤ q ∧
    w.cell? ⟨b, off + k * 3, none⟩ = some (.int .i64 a.s) ∧ w.cell? ⟨b, off + k * 3 + 1, none⟩ = some (.int .i64 a.n) ∧ w.cell? ⟨b, off + k * 3 + 1 + 1, none⟩ = some (.int .i64 a.c) := by
  obtain ⟨h1, h2, b, off, h3, h4, h5⟩ := sl_at h hk
  exact ⟨b, off, _, rfl, h3, h4, by omega, h5 0 (by omega), h5 1 (by omega), h5 2 (by omega)⟩
theorem infoCut : (Tryz.prog.info? 67).map (fun i => (i.zero, i.size, i.bytes)) = some (some (.agg #[.int .i64 0, .int .i64 0, .int .i64 0]), 3, 24) := by kernel_rfl
/-- The map of counts: its keys. -/
def cuE (p : Int × Int) : Value := .agg #[.int .i64 p.1, .int .i64 p.2, .int .i64 0]
theorem cuE_inj (a b : Int × Int) (h : cuE a = cuE b) : a = b := by
  unfold cuE at h
  injection h with h
  have h1 := congrArg Array.toList h
  simp only at h1
  injection h1 with g1 h1
  injection h1 with g2 h1
  injection g1 with _ g1
  injection g2 with _ g2
  exact Prod.ext g1 g2
theorem cuKeyLaw : Go.WideMaps.KeyLaw Tryz.prog 67 := deep_law_laid (P := Tryz.prog) (by kernel_rfl) (m := 3) (by decide) (of_decide_eq_true (by kernel_rfl)) (by kernel_rfl) (by kernel_rfl)
theorem cuLaw : Keyed Tryz.prog 67 := Keyed.of_law cuKeyLaw
theorem cuKey {p : Int × Int} (h1 : I63 p.1) (h2 : I63 p.2) : ∃ l, keyOf Tryz.prog 67 (cuE p) = some l :=
  key3 (by kernel_rfl) (fun _ _ _ => by kernel_rfl) (by kernel_rfl) Tryz.underlying67 (by decide) (by decide) (by decide) h1 h2 (by constructor <;> decide)
end Go.Proofs.YtehadoecnmfeoaaGreat

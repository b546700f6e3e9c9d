/- Part 27 of this claim's texts: walks and plain laws. -/
import Derived.Sort.OwnSortedInts
import Derived.Shelf.GgSortFunc.InsertionK
import Derived.Laws.OwnMore
import Derived.Test.YtehadoecnmfeoaaGreatRows
import Derived.Test.YtehadoecnmfeoaaGreatGBS2
import Derived.Test.YtehadoecnmfeoaaGreatGBS18
import Derived.Test.YtehadoecnmfeoaaGreatGBS21
import Derived.Test.YtehadoecnmfeoaaGreatGBS20
import Derived.Deep.RegionHeld3
import Derived.Deep.DrawnRows
import Derived.Test.YtehadoecnmfeoaaGreatGBS12
import Derived.Test.YtehadoecnmfeoaaGreatGBS14
import Derived.Test.YtehadoecnmfeoaaGreatGBS25
import Derived.Test.YtehadoecnmfeoaaGreatGBS23
import Derived.Test.YtehadoecnmfeoaaGreatGBS3
set_option linter.unusedVariables false
set_option linter.unusedSimpArgs false
set_option linter.unusedSectionVars false
namespace Go.Proofs.YtehadoecnmfeoaaGreat
open Go.RowKit Go.Sort
section
variable {α : Type} (enc : α → List Value)
def rowV (L : List α) : List Value := L.flatMap enc
variable {enc}
theorem rowV_snoc (L : List α) (a : α) : rowV enc (L ++ [a]) = rowV enc L ++ enc a := by simp [rowV]
theorem rowV_len {k : Nat} (hk : ∀ a, (enc a).length = k) : ∀ L : List α, (rowV enc L).length = L.length * k
 | [] => by simp [rowV]
 | a :: L => by
  show (enc a ++ rowV enc L).length = _
  rw [List.length_append, hk, rowV_len hk L, List.length_cons, Nat.succ_mul, Nat.add_comm]
theorem rowV_get {k : Nat} (hk : ∀ a, (enc a).length = k) (z : α) : ∀ {L : List α} {i j : Nat}, i < L.length → j < k → (rowV enc L)[i * k + j]? = (enc (L.getD i z))[j]?
 | a :: L, 0, j, _, hj => by
  show (enc a ++ rowV enc L)[0 * k + j]? = _
  rw [List.getElem?_append_left (by rw [hk]; omega), Nat.zero_mul, Nat.zero_add]
  rfl
 | a :: L, i + 1, j, hi, hj => by
  show (enc a ++ rowV enc L)[(i + 1) * k + j]? = _
  rw [List.getElem?_append_right (by rw [hk, Nat.succ_mul]; omega), hk, show (i + 1) * k + j - k = i * k + j by rw [Nat.succ_mul]; omega, rowV_get hk z (by simpa using hi) hj]
  rfl
def setAll (Fc : List Value) : Nat → List Value → List Value
 | _, [] => Fc
 | s, v :: r => setAll (Fc.set s v) (s + 1) r
theorem setAll_get : ∀ (vs : List Value) (s : Nat) (Fc : List Value) (t : Nat), s + vs.length ≤ Fc.length → (setAll Fc s vs)[t]? = if s ≤ t ∧ t < s + vs.length then vs[t - s]? else Fc[t]?
 | [], s, Fc, t, _ => by
  rw [setAll, if_neg (by simp)]
 | v :: r, s, Fc, t, h => by
  have h' : s + 1 + r.length ≤ Fc.length := by simp at h; omega
  rw [setAll, setAll_get r (s + 1) _ t (by rw [List.length_set]; exact h'), List.getElem?_set]
  by_cases h1 : s + 1 ≤ t ∧ t < s + 1 + r.length
  ·
   rw [if_pos h1, if_pos (by simp; omega)]
   obtain ⟨u, rfl⟩ : ∃ u, t = s + 1 + u := ⟨t - (s + 1), by omega⟩
   rw [show s + 1 + u - (s + 1) = u by omega, show s + 1 + u - s = u + 1 by omega, List.getElem?_cons_succ]
  ·
   rw [if_neg h1]
   by_cases h2 : s = t
   ·
    subst h2
    rw [if_pos rfl, if_pos (by omega), if_pos (by simp), Nat.sub_self]
    rfl
   ·
    rw [if_neg h2, if_neg (by simp; omega)]
theorem idx_div {k i j t : Nat} (hj : j < k) (h : t = i * k + j) : t / k = i ∧ t % k = j := by
 subst h
 have hk : 0 < k := by omega
 constructor
 ·
  rw [Nat.mul_comm, Nat.mul_add_div hk, Nat.div_eq_of_lt hj, Nat.add_zero]
 ·
  rw [Nat.mul_comm, Nat.mul_add_mod, Nat.mod_eq_of_lt hj]
theorem rowV_set {k : Nat} (hk : ∀ a, (enc a).length = k) {L : List α} {i : Nat} (hi : i < L.length) (a : α) : setAll (rowV enc L) (i * k) (enc a) = rowV enc (L.set i a) := by
 rcases Nat.eq_zero_or_pos k with h0 | h0
 ·
  have e1 : enc a = [] := List.length_eq_zero_iff.1 ((hk a).trans h0)
  have e2 : ∀ M : List α, rowV enc M = [] := fun M => List.length_eq_zero_iff.1 (by rw [rowV_len hk, h0, Nat.mul_zero])
  rw [e1, e2, e2]
  rfl
 have hle : i * k + (enc a).length ≤ (rowV enc L).length := by
  rw [hk, rowV_len hk, ← Nat.succ_mul]
  exact Nat.mul_le_mul_right _ hi
 refine List.ext_getElem? fun t => ?_
 rw [setAll_get _ _ _ _ hle, hk]
 by_cases ht : t < L.length * k
 ·
  have e1 : t / k < L.length := Nat.div_lt_of_lt_mul (by rw [Nat.mul_comm]; exact ht)
  have e2 : t = t / k * k + t % k := (Nat.div_add_mod' t k).symm
  have e3 : t % k < k := Nat.mod_lt _ h0
  have g1 : (rowV enc (L.set i a))[t]? = (enc ((L.set i a).getD (t / k) a))[t % k]? := by
   conv => lhs; rw [e2]
   exact rowV_get hk a (by rw [List.length_set]; exact e1) e3
  have g2 : (rowV enc L)[t]? = (enc (L.getD (t / k) a))[t % k]? := by
   conv => lhs; rw [e2]
   exact rowV_get hk a e1 e3
  rw [g1, g2]
  by_cases h1 : i * k ≤ t ∧ t < i * k + k
  ·
   have h2 := idx_div (k := k) (i := i) (j := t - i * k) (t := t) (by omega) (by omega)
   rw [if_pos h1, h2.1, h2.2, List.getD_eq_getElem?_getD, List.getElem?_set, if_pos rfl, if_pos hi]
   rfl
  ·
   have hne : ¬ i = t / k := fun e => by
    rw [e] at h1
    omega
   have g3 : (L.set i a).getD (t / k) a = L.getD (t / k) a := by
    rw [List.getD_eq_getElem?_getD, List.getElem?_set, if_neg hne, ← List.getD_eq_getElem?_getD]
   rw [if_neg h1, g3]
 ·
  have h2 : (i + 1) * k ≤ L.length * k := Nat.mul_le_mul_right _ hi
  rw [Nat.succ_mul] at h2
  rw [if_neg (by omega), List.getElem?_eq_none (by rw [rowV_len hk]; omega), List.getElem?_eq_none (by rw [rowV_len hk, List.length_set]; omega)]
theorem flatK_row [Inhabited α] {k : Nat} (hk : ∀ a, (enc a).length = k) (L : List α) : flatK enc k L.toArray = (rowV enc L).toArray := by
 rcases Nat.eq_zero_or_pos k with h0 | h0
 ·
  have e2 : rowV enc L = [] := List.length_eq_zero_iff.1 (by rw [rowV_len hk, h0, Nat.mul_zero])
  rw [e2]
  refine Array.eq_empty_of_size_eq_zero ?_
  rw [size_flatK, h0, Nat.mul_zero]
 refine Array.ext (by rw [size_flatK]; simp [rowV_len hk]) fun t h1 h2 => ?_
 have ht : t < L.length * k := by simpa using h1
 have e1 : t / k < L.length := Nat.div_lt_of_lt_mul (by rw [Nat.mul_comm]; exact ht)
 have e3 : t % k < k := Nat.mod_lt _ h0
 have g2 : (rowV enc L)[t]? = (enc (L.getD (t / k) default))[t % k]? := by
  conv => lhs; rw [show t = t / k * k + t % k from (Nat.div_add_mod' t k).symm]
  exact rowV_get hk default e1 e3
 have g3 := get_flatK enc k L.toArray t (by simpa using ht)
 rw [getElem!_pos (flatK enc k L.toArray) t h1] at g3
 rw [g3]
 have e4 : (L.toArray)[t / k]! = L.getD (t / k) default := by
  rw [getElem!_pos L.toArray (t / k) (by simpa using e1), List.getD_eq_getElem?_getD, List.getElem?_eq_getElem e1]
  simp
 rw [e4]
 have e5 : t % k < (enc (L.getD (t / k) default)).length := by rw [hk]; exact e3
 rw [getElem!_pos (enc (L.getD (t / k) default)) (t % k) e5]
 have e6 : (rowV enc L).toArray[t] = (rowV enc L)[t]'(by simpa using h2) := by simp
 rw [e6]
 rw [List.getElem?_eq_getElem (by simpa using h2), List.getElem?_eq_getElem e5] at g2
 injection g2 with g2
 exact g2.symm
end
theorem holds_row {w : World} {g : Nat} {cur : Array Value} {e : TypeId} {Fc : List Value} (hb : w.heap[g]? = some (.cells cur e (0, 0))) (ht : cur.toList.take Fc.length = Fc) : Holds id w g 0 Fc.toArray := by
 intro j hj
 have hj' : j < Fc.length := by simpa using hj
 refine ⟨?_, by simp [World.frozen?, hb]⟩
 have h1 : (cur.toList.take Fc.length)[j]? = Fc[j]? := by rw [ht]
 rw [List.getElem?_take_of_lt hj'] at h1
 simp only [World.cell?, hb, Nat.zero_add]
 simp only [Option.isSome_none, Bool.false_eq_true, if_false]
 rw [← Array.getElem?_toList, h1]
 simp [hj']
theorem heap_sortedV {w : World} {g n : Nat} {os : Array Obj} {cur : Array Value} {e : TypeId} {fr : Nat × Nat} (d : Array Value) (hb : w.heap[g]? = some (.cells cur e fr)) :
  (grow (putRow id (Sort.ahead w n) g 0 d) os).heap[g]? = some (.cells (putCells id 0 d cur) e fr) := by
 have hg : g < w.heap.size := (Array.getElem?_eq_some_iff.1 hb).1
 rw [heap_grow_old _ _ (by simpa using hg)]
 simp [putRow, mapBlock, Sort.ahead, Array.getElem?_modify, hb, onCells]
theorem grownBy_sortedV {w : World} {g n : Nat} {os : Array Obj} (d : Array Value) : w.grownBy (grow (putRow id (Sort.ahead w n) g 0 d) os) (some g) := by
 refine ⟨rfl, rfl, rfl, by simp, fun k hk hne => ?_⟩
 rw [heap_grow_old _ _ (by simpa using hk)]
 have : g ≠ k := fun e => hne (by rw [e])
 simp [putRow, mapBlock, Sort.ahead, Array.getElem?_modify, this]
theorem take_putCellsV (cur : Array Value) (ts : List Value) (h : ts.length ≤ cur.size) : (putCells id 0 ts.toArray cur).toList.take ts.length = ts := by
 apply List.ext_getElem?
 intro j
 by_cases hj : j < ts.length
 ·
  rw [List.getElem?_take_of_lt hj, Array.getElem?_toList]
  simp [putCells, hj, show j < cur.size by omega]
 ·
  rw [List.getElem?_take_eq_none (by omega), List.getElem?_eq_none (by omega)]
theorem ownsRow_sortedV {w : World} {base g cap n size m : Nat} {e : TypeId} {os : Array Obj} {cur : Array Value} {Fc : List Value} (hF : Fc.length = n * size) (hbase : base ≤ g) (hb : w.heap[g]? = some (.cells cur e (0, 0)))
  (h1 : n ≤ cap) (h2 : cap ≤ maxLen) (h3 : cur.size = cap * size) :
  (grow (putRow id (Sort.ahead w m) g 0 Fc.toArray) os).ownsRow base e size (.slice (some ⟨g, 0, none⟩) n cap) n Fc :=
 ⟨hF, .inr ⟨g, cap, _, rfl, hbase, heap_sortedV _ hb, h1, h2, by simp [putCells, h3], by
  rw [← hF]
  refine take_putCellsV cur Fc ?_
  rw [h3, hF]
  exact Nat.mul_le_mul_right _ h1⟩⟩
theorem perm_list {α : Type} [Inhabited α] {L : List α} {d' : Array α} (h : PermIn 0 L.toArray.size L.toArray d') : d'.toList.Perm L := by
 obtain ⟨h1, _, h3⟩ := h
 have e1 : d'.extract 0 L.toArray.size = d' := by rw [← h1]; exact Array.extract_size
 have e2 : L.toArray.extract 0 L.toArray.size = L.toArray := Array.extract_size
 rw [e1, e2] at h3
 simpa using h3
theorem sorted_list {α : Type} [Inhabited α] {lt : α → α → Bool} {n : Nat} {d' : Array α} (hn : d'.size = n) (h : SortedIn lt 0 n d') (z : α) : ∀ i j, i < j → j < d'.toList.length → lt (d'.toList.getD j z) (d'.toList.getD i z) = false := by
 intro i j hij hj
 have hj' : j < d'.size := by simpa using hj
 have h1 := h i j (Nat.zero_le _) hij (by omega)
 rw [getElem!_pos d' j hj', getElem!_pos d' i (show i < d'.size by omega)] at h1
 rw [List.getD_eq_getElem?_getD, List.getD_eq_getElem?_getD, List.getElem?_eq_getElem (by simpa using hj'), List.getElem?_eq_getElem (by simpa using (show i < d'.size by omega))]
 simpa using h1
theorem own_set2 {w : World} {base e g cap n : Nat} {xs : List Value} (h : w.ownsRow base e 2 (.slice (some ⟨g, 0, none⟩) n cap) n xs) (s : Nat) (u v : Value) :
  ((w.setCell ⟨g, s, none⟩ u).setCell ⟨g, s + 1, none⟩ v).ownsRow base e 2 (.slice (some ⟨g, 0, none⟩) n cap) n (setAll xs s [u, v]) ∧ w.grownBy ((w.setCell ⟨g, s, none⟩ u).setCell ⟨g, s + 1, none⟩ v) (some g) := by
 obtain ⟨h1, h2⟩ := h.stored s u
 obtain ⟨h3, h4⟩ := h1.stored (s + 1) v
 exact ⟨h3, only_trans h2 h4⟩
end Go.Proofs.YtehadoecnmfeoaaGreat
namespace Go.Proofs.YtehadoecnmfeoaaGreat
def bestN (f : Nat → Int) : Nat → Nat × Int
 | 0 => (0, f 0)
 | m + 1 => if f (m + 1) < (bestN f m).2 then (m + 1, f (m + 1)) else bestN f m
noncomputable def sumD (l : Lo) (s : Nat) (ts : List Nat) : Int := (ts.map fun t => distN l.rs (runLen l) s t).sum
noncomputable def spliceN (l : Lo) (ts : List Nat) : Nat × Int := bestN (fun s => sumD l s ts) (l.ss.length - 1)
section
variable {l : Lo} (h : LoOk l)
include h
theorem LoOk.both {k : Nat} (hk : k < l.us.length) {ts : List Nat} (ht : ∀ t ∈ ts, t < l.ss.length) :
  ((∃ x ∈ ts, Rch l.rs k (l.rs.getD k (0, 0)).1 x) ∧ ∃ y ∈ ts, ¬ Rch l.rs k (l.rs.getD k (0, 0)).1 y) ↔ ∃ x ∈ ts, ∃ y ∈ ts, ¬ Rch l.rs k x y := by
 have hkl : k < l.rs.length := by rw [rs_len]; exact hk
 obtain ⟨a, b, hab⟩ : ∃ a b, l.rs.getD k (0, 0) = (a, b) := ⟨_, _, rfl⟩
 rw [hab]
 simp only
 constructor
 ·
  rintro ⟨⟨x, hx, h1⟩, y, hy, h2⟩
  exact ⟨x, hx, y, hy, fun q => h2 (h1.trans q)⟩
 ·
  rintro ⟨x, hx, y, hy, hn⟩
  have hp := h.tree.part hkl (.inl hab) (ht x hx) (ht y hy)
  by_cases h1 : Rch l.rs k a x
  ·
   exact ⟨⟨x, hx, h1⟩, y, hy, fun q => hn (h1.symm.trans q)⟩
  ·
   by_cases h2 : Rch l.rs k a y
   ·
    exact ⟨⟨y, hy, h2⟩, x, hx, h1⟩
   ·
    exact absurd (hp.1 ⟨fun q => absurd q h1, fun q => absurd q h2⟩) hn
open Classical in
theorem LoOk.join_step {k : Nat} (hk : k < l.us.length) {ts : List Nat} (ht : ∀ t ∈ ts, t < l.ss.length) (c : Bool)
  (hc : c = true ↔ ((∃ x ∈ ts, Rch l.rs k (l.rs.getD k (0, 0)).1 x) ∧ ∃ y ∈ ts, ¬ Rch l.rs k (l.rs.getD k (0, 0)).1 y)) :
  (if c = true then runLen l k else 0) = if ∃ x ∈ ts, ∃ y ∈ ts, ¬ Rch l.rs k x y then runLen l k else 0 := by
 by_cases hq : ∃ x ∈ ts, ∃ y ∈ ts, ¬ Rch l.rs k x y
 ·
  rw [if_pos hq, if_pos (hc.2 ((h.both hk ht).2 hq))]
 ·
  rw [if_neg hq, if_neg (fun q => hq ((h.both hk ht).1 (hc.1 q)))]
end
end Go.Proofs.YtehadoecnmfeoaaGreat
namespace Go.Proofs.YtehadoecnmfeoaaGreat
open Go.RowKit
end Go.Proofs.YtehadoecnmfeoaaGreat
namespace Go.Proofs.YtehadoecnmfeoaaGreat
def rulesAt (m : Mo) (K : List Nat) : List (List Int) := K.map fun k => m.rules.getD k []
def corS (m : Mo) (f : List Int) (K : List Nat) (j : Nat) : List (List Bool) := (exts m.opts.length []).filter fun x => evF1 (vf x) f && (allF (vf x) (rulesAt m K) && allF (vf x) (m.rules.drop j))
def kept (m : Mo) (f : List Int) : Nat → List Nat
 | 0 => []
 | i + 1 => if (corS m f (kept m f i) (i + 1)).isEmpty then kept m f i else kept m f i ++ [i]
def fewM (m : Mo) (K : List Nat) : Mo := ⟨m.opts, rulesAt m K⟩
def corE (m : Mo) (f : List Int) : Int := if m.errF [f] ≠ 0 then m.errF [f] else if whereF (allM m) f ≠ [] then 1 else 0
def corL (m : Mo) (f : List Int) : List Nat := if corE m f = 0 then kept m f m.rules.length else []
end Go.Proofs.YtehadoecnmfeoaaGreat
namespace Go.Proofs.YtehadoecnmfeoaaGreat
open Go.RowKit
def CorP (l : List Nat) (er : Int) (w : World) (e : Ending) (w' : World) : Prop := ∃ v, e = .returned (.tuple #[v, .int .i64 er]) ∧ Nods w' w'.heap.size v l ∧ Below w.heap.size w w'
def slcV (A : Option Addr) (n cap k : Nat) : Value := sliced A k n cap 1
structure CorI (m : Mo) (f : List Int) (w1 : World) (F : Fo) (a k : Nat) (w2 : World) (F1 : Fo) : Prop where
 op : OpR k w1 F w2 F1
 lt : a < F1.ks.length
 ev : ∀ v, ev F1.ks v a = evF1 v f
def NStk (B : Nat) (w : World) (sv : Value) (S : List Nat) : Prop := w.ownsRow B 3 1 sv S.length (S.map fun (n : Nat) => Value.int .i64 n)
def butN (i : Nat) (S : List Nat) : List Nat := S.filter fun k => !(k == i)
structure OFs (w : World) (e B : Nat) (wr : World) (sv : Value) (L : List (List Int)) (vs : List Value) : Prop where
 len : vs.length = L.length
 own : wr.ownsRow B e 1 sv L.length vs
 row : ∀ i, i < L.length → Ints w w.heap.size (vs.getD i undef) (L.getD i [])
theorem OFs.nil (w : World) (e B : Nat) (wr : World) : OFs w e B wr (.slice none 0 0) [] [] := ⟨rfl, World.ownsRow_nil wr B e 1, fun i hi => by simp at hi⟩
theorem OFs.same {w : World} {e B : Nat} {wr wr' : World} {sv : Value} {L : List (List Int)} {vs : List Value} (h : OFs w e B wr sv L vs) (hs : ∀ b, sv.ownBlock = some b → wr'.heap[b]? = wr.heap[b]?) : OFs w e B wr' sv L vs := ⟨h.len, ownsRow_same h.own hs, h.row⟩
theorem OFs.push {w : World} {e B : Nat} {wr wr' : World} {sv v1 : Value} {L : List (List Int)} {vs : List Value} {l : List Int} {x : Value} (h : OFs w e B wr sv L vs) (hx : Ints w w.heap.size x l) (hown : wr'.ownsRow B e 1 v1 (L.length + 1) (vs ++ [x])) : OFs w e B wr' v1 (L ++ [l]) (vs ++ [x]) := by
 have hl := h.len
 refine ⟨by simp [hl], by rw [List.length_append]; exact hown, fun i hi => ?_⟩
 rw [getD_push, getD_push, hl]
 by_cases h1 : i < L.length
 ·
  rw [if_pos h1, if_pos h1]
  exact h.row i h1
 ·
  have : i = L.length := by simp at hi; omega
  rw [if_neg h1, if_pos this, if_neg h1, if_pos this]
  exact hx
theorem OFs.forms {w : World} {e B : Nat} {wr : World} {sv : Value} {L : List (List Int)} {vs : List Value} (h : OFs w e B wr sv L vs) (hb : Below w.heap.size w wr) : Forms wr wr.heap.size sv L := by
 refine ⟨fun i => vs.getD i undef, Sl.of_owns h.own fun i j hi hj => ?_, fun i hi => ((h.row i hi).below hb).more hb.size⟩
 obtain rfl : j = 0 := by omega
 have := h.len
 have hi2 : i < vs.length := by omega
 rw [Nat.mul_one, Nat.add_zero]
 simp [hi2]
theorem OFs.shape {w : World} {e B : Nat} {wr : World} {sv : Value} {L : List (List Int)} {vs : List Value} (h : OFs w e B wr sv L vs) : ∃ A cap, sv = .slice A L.length cap ∧ L.length ≤ cap ∧ cap ≤ maxLen := by
 rcases h.own.2 with ⟨h1, h2⟩ | ⟨g, cap, cur, h1, _, _, h2, h3, _⟩
 ·
  exact ⟨none, 0, by rw [h1, h2], by omega, by unfold maxLen; omega⟩
 ·
  exact ⟨_, cap, h1, h2, h3⟩
def fewS (fb : Nat) (rv : Value) (k : Nat) : Prop := k = fb ∨ rv.ownBlock = some k
def fmsL (l : Lo) (T : List Nat) : List (List Int) := T.map fun i => (l.ws.getD i Wi.o).form
def szsL (l : Lo) (T : List Nat) : List Int := T.map fun i => (l.ws.getD i Wi.o).size
structure WorS (w0 wr : World) (B lb : Nat) (A0 A1 A2 A3 A4 A5 : Option Addr) (q0 q1 q2 q3 q4 q5 : Nat) (l : Lo) (fv sv : Value) (Fs : List (List Int)) (Ss : List Int) (vs : List Value) : Prop where
 below : Below w0.heap.size w0 wr
 box : LoBox wr lb A0 A1 A2 A3 A4 A5 q0 q1 q2 q3 q4 q5 l
 f : OFs w0 46 B wr fv Fs vs
 s : wr.ownsRow B 3 1 sv Ss.length (Ss.map fun (n : Int) => Value.int .i64 n)
 lt : w0.heap.size ≤ B ∧ B ≤ wr.heap.size
section
variable {w0 wr w' : World} {B lb : Nat} {A0 A1 A2 A3 A4 A5 : Option Addr} {q0 q1 q2 q3 q4 q5 : Nat} {l : Lo} {fv sv v1 x : Value} {Fs : List (List Int)} {Ss : List Int} {vs : List Value} {m : Int} {o : Obj} {f : List Int}
theorem own_low {b e sz n : Nat} {v : Value} {xs : List Value} (h0 : Below w0.heap.size w0 wr) (h : wr.ownsRow b e sz v n xs) (hb : w0.heap.size ≤ b) (hg : (wr.alloc o).grownBy w' v.ownBlock) : Below w0.heap.size w0 w' :=
 Below.grown (Below.to h0 ((Below.refl wr.heap.size wr).alloc (Nat.le_refl _) o) (Nat.le_refl _)) hg (by have := h0.size; simp; omega) (fun k hk => Nat.le_trans hb (h.lt k hk).1)
end
def worN (l : Lo) (run : Nat) : Int := mosN l.m (fmsL l (thruL l run)) (szsL l (thruL l run))
def worX (l : Lo) (run : Nat) : List Bool := mosX l.m (fmsL l (thruL l run)) (szsL l (thruL l run))
def worE (l : Lo) (run : Nat) : Int := mosE l.m (fmsL l (thruL l run)) (szsL l (thruL l run))
def havE (l : Lo) (b : Bool) : Int := if l.err ≠ 0 then l.err else mustE b 1
def wrsE (l : Lo) (run : Int) : Int := havE l (btw run 0 ((l.us.length : Int) - 1))
theorem any_yes {α : Type} {z : α} {p : α → Bool} {l : List α} {k : Nat} (hk : k < l.length) (h : p (l.getD k z) = true) : l.any p = true :=
 List.any_eq_true.2 ⟨_, by rw [List.getD_eq_getElem?_getD, List.getElem?_eq_getElem hk]; exact List.getElem_mem hk, h⟩
theorem any_no {α : Type} {z : α} {p : α → Bool} {l : List α} (h : ∀ j, j < l.length → p (l.getD j z) = false) : l.any p = false := by
 rw [← Bool.not_eq_true, List.any_eq_true]
 rintro ⟨x, hx, hp⟩
 obtain ⟨i, hi, rfl⟩ := List.mem_iff_getElem.1 hx
 have := h i hi
 rw [List.getD_eq_getElem?_getD, List.getElem?_eq_getElem hi, Option.getD_some, hp] at this
 cases this
theorem getD_mem3f {α : Type} {l : List α} {z : α} {k : Nat} (h : k < l.length) : l.getD k z ∈ l := by
 rw [List.getD_eq_getElem?_getD, List.getElem?_eq_getElem h]
 exact List.getElem_mem h
def farN (l : Lo) : Bool := decide (10 < l.m.opts.length) || decide (10 < l.m.rules.length) || decide (12 < l.ss.length) || decide (12 < l.us.length) || decide (10 < l.ps.length) || decide (12 < l.ws.length)
def farW (x : Wi) : Bool := decide (100 < x.name.size) || decide (40 < x.form.length)
def farB (l : Lo) : Bool := farN l || (l.m.rules.any fun f => decide (40 < f.length)) || (l.m.opts.any fun s => decide (100 < s.size)) || (l.ps.any fun p => decide (100 < p.name.size)) || l.ws.any farW
theorem btw_neg {n m : Int} (h : n < 0) : btw n 0 m = false := btw_f (.inl h)
theorem btw_dec {n : Int} {m : Nat} (h : 0 ≤ n) : btw n 0 ((m : Int) - 1) = decide (n < (m : Int)) := by
 unfold btw
 rw [decide_eq_true h, Bool.true_and]
 exact decide_eq_decide.2 (by omega)
theorem btw_dec2 {n m : Int} (h : 0 ≤ n) : btw n 0 (m - 1) = decide (n < m) := by
 unfold btw
 rw [decide_eq_true h, Bool.true_and]
 exact decide_eq_decide.2 (by omega)
set_option maxRecDepth 100000 in
set_option maxHeartbeats 1000000 in
theorem rspot_any (n : Int) (A0 A1 A2 A3 A4 A5 : Option Addr) (q0 q1 q2 q3 q4 q5 : Nat) (l : Lo) (w : World) (b : Bool) (hb : btw n 0 ((l.ss.length : Int) - 1) = b) :
  Calls Tryz.prog 202 #[.agg #[.slice A0 l.m.opts.length q0, .slice A1 l.m.rules.length q1, .slice A2 l.ss.length q2, .slice A3 l.us.length q3, .slice A4 l.ps.length q4, .slice A5 l.ws.length q5], .int .i64 n] w fun e w' => e = .returned (.bool b) ∧ Below w.heap.size w w' := by
 subst hb
 by_cases h0 : 0 ≤ n
 ·
  have hr := btw_dec (n := n) (m := l.ss.length) h0
  have HR := hide hr
  clear hr
  go_enter Tryz.func202, Tryz.ntmps202
  go_wp2_with fail
  go_ret
  exact ⟨ret_bool HR.out.symm, zP⟩
 ·
  have hr := btw_neg (n := n) (m := (l.ss.length : Int) - 1) (by omega)
  have HR := hide hr
  clear hr
  go_enter Tryz.func202, Tryz.ntmps202
  go_wp2_with fail
  go_ret
  exact ⟨ret_bool HR.out.symm, zP⟩
set_option maxRecDepth 100000 in
set_option maxHeartbeats 2000000 in
theorem rpin_any (p c : Int) (A0 A1 A2 A3 A4 A5 : Option Addr) (q0 q1 q2 q3 q4 q5 : Nat) (l : Lo) (w : World) (h : LoA w w.heap.size A0 A1 A2 A3 A4 A5 q0 q1 q2 q3 q4 q5 l) (b : Bool) (hb : pinOk l p c = b) :
  Calls Tryz.prog 204 #[.agg #[.slice A0 l.m.opts.length q0, .slice A1 l.m.rules.length q1, .slice A2 l.ss.length q2, .slice A3 l.us.length q3, .slice A4 l.ps.length q4, .slice A5 l.ws.length q5], .agg #[.int .i64 p, .int .i64 c]] w fun e w' => e = .returned (.bool b) ∧ Below w.heap.size w w' := by
 subst hb
 have H := hide h
 clear h
 by_cases h0 : 0 ≤ p
 case neg =>
  have hr : pinOk l p c = false := by unfold pinOk; rw [btw_f (.inl (by omega))]; rfl
  have HR := hide hr
  have e0 : decide ((0 : Int) ≤ p) = false := decide_eq_false h0
  clear hr
  go_enter Tryz.func204, Tryz.ntmps204
  go_upto_region 1 with (fail)
  generalize hw0 : World.alloc _ _ = w0
  obtain ⟨hb0, hb1, hB0, hs0⟩ := alloc2 hw0
  have HB0 := hide hB0
  have c4 := cellOf hb0 4
  have d0 := cellOf hb1 0
  have d1 := cellOf hb1 1
  have l0 := box_lt hb0
  have l1 := box_lt hb1
  clear hw0 hb0 hb1 hB0 hs0
  refine wp_region_held_drew (S := (fun w' => Below w0.heap.size w0 w')) (by kernel_rfl) ?_ (fun hHeld => ?_)
  ·
   try dsimp only
   exact zP
  refine zT 0 rfl ?_
  refine zT 1 rfl ?_
  refine zT 2 rfl ?_
  refine zT 3 rfl ?_
  refine zS 4 rfl ?_
  refine zS 5 rfl ?_
  refine zS 6 rfl ?_
  refine zS 7 rfl ?_
  refine zS 8 rfl ?_
  refine zS 9 rfl ?_
  refine zT 10 rfl ?_
  refine zT 11 rfl ?_
  refine zS 12 rfl ?_
  refine zS 13 rfl ?_
  refine zS 14 rfl ?_
  refine zT 15 rfl ?_
  refine zT 16 rfl ?_
  refine zS 17 rfl ?_
  refine zS 18 rfl ?_
  refine zS 19 rfl ?_
  refine zS 20 rfl ?_
  refine zS 21 rfl ?_
  refine zS 22 rfl ?_
  refine zS 23 rfl ?_
  refine zS 24 rfl ?_
  refine zS 25 rfl ?_
  refine zS 26 rfl ?_
  refine zT 27 rfl ?_
  refine zT 28 rfl ?_
  refine wpAnyH_done (by kernel_rfl) ?_ _
  go_wp2_with fail
  go_ret
  exact ⟨ret_bool HR.out.symm, Below.to HB0.out hHeld (Nat.le_refl _)⟩
 case pos =>
 have e0 : decide ((0 : Int) ≤ p) = true := decide_eq_true h0
 by_cases h1 : p < (l.ps.length : Int)
 case neg =>
  have hr : pinOk l p c = false := by unfold pinOk; rw [btw_f (.inr (by omega))]; rfl
  have HR := hide hr
  have e1 : decide (p < (l.ps.length : Int)) = false := decide_eq_false h1
  clear hr
  go_enter Tryz.func204, Tryz.ntmps204
  go_upto_region 1 with (fail)
  generalize hw0 : World.alloc _ _ = w0
  obtain ⟨hb0, hb1, hB0, hs0⟩ := alloc2 hw0
  have HB0 := hide hB0
  have c4 := cellOf hb0 4
  have d0 := cellOf hb1 0
  have d1 := cellOf hb1 1
  have l0 := box_lt hb0
  have l1 := box_lt hb1
  clear hw0 hb0 hb1 hB0 hs0
  refine wp_region_held_drew (S := (fun w' => Below w0.heap.size w0 w')) (by kernel_rfl) ?_ (fun hHeld => ?_)
  ·
   try dsimp only
   exact zP
  refine zT 0 rfl ?_
  refine zT 1 rfl ?_
  refine zT 2 rfl ?_
  refine zT 3 rfl ?_
  refine zT 4 rfl ?_
  refine zT 5 rfl ?_
  refine zT 6 rfl ?_
  refine zT 7 rfl ?_
  refine zT 8 rfl ?_
  refine zT 9 rfl ?_
  refine zT 10 rfl ?_
  refine zT 11 rfl ?_
  refine zS 12 rfl ?_
  refine zS 13 rfl ?_
  refine zS 14 rfl ?_
  refine zT 15 rfl ?_
  refine zT 16 rfl ?_
  refine zS 17 rfl ?_
  refine zS 18 rfl ?_
  refine zS 19 rfl ?_
  refine zS 20 rfl ?_
  refine zS 21 rfl ?_
  refine zS 22 rfl ?_
  refine zS 23 rfl ?_
  refine zS 24 rfl ?_
  refine zS 25 rfl ?_
  refine zS 26 rfl ?_
  refine zT 27 rfl ?_
  refine zT 28 rfl ?_
  refine wpAnyH_done (by kernel_rfl) ?_ _
  go_wp2_with fail
  go_ret
  exact ⟨ret_bool HR.out.symm, Below.to HB0.out hHeld (Nat.le_refl _)⟩
 case pos =>
 have e1 : decide (p < (l.ps.length : Int)) = true := decide_eq_true h1
 by_cases h2 : 0 ≤ c
 case neg =>
  have hr : pinOk l p c = false := by unfold pinOk; rw [btw_f (n := c) (.inl (by omega))]; simp
  have HR := hide hr
  have e2 : decide ((0 : Int) ≤ c) = false := decide_eq_false h2
  clear hr
  go_enter Tryz.func204, Tryz.ntmps204
  go_upto_region 1 with (fail)
  generalize hw0 : World.alloc _ _ = w0
  obtain ⟨hb0, hb1, hB0, hs0⟩ := alloc2 hw0
  have HB0 := hide hB0
  have c4 := cellOf hb0 4
  have d0 := cellOf hb1 0
  have d1 := cellOf hb1 1
  have l0 := box_lt hb0
  have l1 := box_lt hb1
  clear hw0 hb0 hb1 hB0 hs0
  refine wp_region_held_drew (S := (fun w' => Below w0.heap.size w0 w')) (by kernel_rfl) ?_ (fun hHeld => ?_)
  ·
   try dsimp only
   exact zP
  refine zT 0 rfl ?_
  refine zT 1 rfl ?_
  refine zT 2 rfl ?_
  refine zT 3 rfl ?_
  refine zT 4 rfl ?_
  refine zT 5 rfl ?_
  refine zT 6 rfl ?_
  refine zT 7 rfl ?_
  refine zT 8 rfl ?_
  refine zT 9 rfl ?_
  refine zT 10 rfl ?_
  refine zT 11 rfl ?_
  refine zT 12 rfl ?_
  refine zT 13 rfl ?_
  refine zT 14 rfl ?_
  refine zT 15 rfl ?_
  refine zT 16 rfl ?_
  refine zS 17 rfl ?_
  refine zS 18 rfl ?_
  refine zS 19 rfl ?_
  refine zS 20 rfl ?_
  refine zS 21 rfl ?_
  refine zS 22 rfl ?_
  refine zS 23 rfl ?_
  refine zS 24 rfl ?_
  refine zS 25 rfl ?_
  refine zS 26 rfl ?_
  refine zT 27 rfl ?_
  refine zT 28 rfl ?_
  refine wpAnyH_done (by kernel_rfl) ?_ _
  go_wp2_with fail
  go_ret
  exact ⟨ret_bool HR.out.symm, Below.to HB0.out hHeld (Nat.le_refl _)⟩
 case pos =>
 have e2 : decide ((0 : Int) ≤ c) = true := decide_eq_true h2
 obtain ⟨k, rfl⟩ := Int.eq_ofNat_of_zero_le h0
 have hk : k < l.ps.length := by omega
 obtain ⟨b, off, x, HX, rfl, hbb, hq, f0, f1, f2⟩ := H.out.pl hk
 have iq : (l.ps.length : Int) ≤ (q4 : Int) := by omega
 have hr : pinOk l k c = decide (c < x.cav) := by unfold pinOk; rw [btw_t h0 (by omega), Int.toNat_natCast, HX.out, btw_dec2 h2]; rfl
 have HR := hide hr
 clear hr
 go_enter Tryz.func204, Tryz.ntmps204
 go_upto_region 1 with (fail)
 generalize hw0 : World.alloc _ _ = w0
 obtain ⟨hb0, hb1, hB0, hs0⟩ := alloc2 hw0
 have HB0 := hide hB0
 have c4 := cellOf hb0 4
 have d0 := cellOf hb1 0
 have d1 := cellOf hb1 1
 have l0 := box_lt hb0
 have l1 := box_lt hb1
 have l2 : b < w0.heap.size := by omega
 have g2 := (hB0.cell (p := ⟨b, off + k * 3 + 2, none⟩) hbb).trans f2
 clear f0 f1 f2
 clear hw0 hb0 hb1 hB0 hs0
 refine wp_region_held_drew (S := (fun w' => Below w0.heap.size w0 w')) (by kernel_rfl) ?_ (fun hHeld => ?_)
 ·
  try dsimp only
  exact zP
 refine zT 0 rfl ?_
 refine zT 1 rfl ?_
 refine zT 2 rfl ?_
 refine zT 3 rfl ?_
 refine zT 4 rfl ?_
 refine zT 5 rfl ?_
 refine zT 6 rfl ?_
 refine zT 7 rfl ?_
 refine zT 8 rfl ?_
 refine zT 9 rfl ?_
 refine zT 10 rfl ?_
 refine zT 11 rfl ?_
 refine zT 12 rfl ?_
 refine zT 13 rfl ?_
 refine zT 14 rfl ?_
 refine zT 15 rfl ?_
 refine zT 16 rfl ?_
 refine zT 17 rfl ?_
 refine zT 18 rfl ?_
 refine zT 19 rfl ?_
 refine zT 20 rfl ?_
 refine zT 21 rfl ?_
 refine zT 22 rfl ?_
 refine zT 23 rfl ?_
 refine zT 24 rfl ?_
 refine zT 25 rfl ?_
 refine zT 26 rfl ?_
 refine zT 27 rfl ?_
 refine zT 28 rfl ?_
 refine wpAnyH_done (by kernel_rfl) ?_ _
 go_wp2_with fail
 go_ret
 exact ⟨ret_bool HR.out.symm, Below.to HB0.out hHeld (Nat.le_refl _)⟩
end Go.Proofs.YtehadoecnmfeoaaGreat

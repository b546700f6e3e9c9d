/- Part 33 of this claim's texts: walks and plain laws. -/
import Derived.Test.YtehadoecnmfeoaaRows
import Derived.Test.YtehadoecnmfeoaaGBD30
import Derived.Test.YtehadoecnmfeoaaGBD32
import Derived.Test.YtehadoecnmfeoaaGBD1
import Derived.Deep.RegionHeld3
import Derived.Deep.DrawnRows
import Derived.Test.YtehadoecnmfeoaaGBD2
import Derived.Test.YtehadoecnmfeoaaGBD15
import Derived.WalkSpells
import Derived.Lib.SliceRun
/- Modules in the making: an own row of modules, each with an own row of wires. -/
namespace Go.Proofs.Ytehadoecnmfeoaa
open Go.RowKit
set_option linter.unusedVariables false
set_option linter.unusedSimpArgs false
def RowI (w : World) (B : Nat) (v : Value) (L : List Int) : Prop := w.ownsRow B 3 1 v L.length (L.map (Value.int .i64))
def Sep (a b : Value) : Prop := ∀ k, a.ownBlock = some k → b.ownBlock ≠ some k
def flat2 : List (Value × Value) → List Value
  | [] => []
  | p :: P => p.1 :: p.2 :: flat2 P
theorem flat2_at0 : ∀ (P : List (Value × Value)) {i : Nat}, i < P.length → (flat2 P)[i * 2]? = some (P.getD i (undef, undef)).1
  | p :: P, 0, _ => rfl
  | p :: P, i + 1, h => by
    have h1 := flat2_at0 P (i := i) (by simp at h; omega)
    show (p.1 :: p.2 :: flat2 P)[(i + 1) * 2]? = _
    rw [show (i + 1) * 2 = i * 2 + 1 + 1 by omega, List.getElem?_cons_succ, List.getElem?_cons_succ, h1]
    rfl
theorem flat2_at1 : ∀ (P : List (Value × Value)) {i : Nat}, i < P.length → (flat2 P)[i * 2 + 1]? = some (P.getD i (undef, undef)).2
  | p :: P, 0, _ => rfl
  | p :: P, i + 1, h => by
    have h1 := flat2_at1 P (i := i) (by simp at h; omega)
    show (p.1 :: p.2 :: flat2 P)[(i + 1) * 2 + 1]? = _
    rw [show (i + 1) * 2 + 1 = i * 2 + 1 + 1 + 1 by omega, List.getElem?_cons_succ, List.getElem?_cons_succ, h1]
    rfl
theorem flat2_snoc : ∀ (P : List (Value × Value)) (x y : Value), flat2 (P ++ [(x, y)]) = flat2 P ++ [x, y]
  | [], _, _ => rfl
  | p :: P, x, y => by
    show p.1 :: p.2 :: flat2 (P ++ [(x, y)]) = _
    rw [flat2_snoc P x y]
    rfl
theorem flat2_set : ∀ (P : List (Value × Value)) {k : Nat} (y : Value), k < P.length → (flat2 P).set (k * 2 + 1) y = flat2 (P.set k ((P.getD k (undef, undef)).1, y))
  | p :: P, 0, y, _ => rfl
  | p :: P, k + 1, y, h => by
    have h1 := flat2_set P (k := k) y (by simp at h; omega)
    show (p.1 :: p.2 :: flat2 P).set ((k + 1) * 2 + 1) y = p.1 :: p.2 :: flat2 (P.set k _)
    rw [show (k + 1) * 2 + 1 = k * 2 + 1 + 1 + 1 by omega, List.set_cons_succ, List.set_cons_succ, h1]
    rfl
structure DvM (w : World) (B : Nat) (v : Value) (D : List Md) (P : List (Value × Value)) : Prop where
  len : P.length = D.length
  own : w.ownsRow B 53 2 v D.length (flat2 P)
  f : ∀ i, i < D.length → RowI w B (P.getD i (undef, undef)).1 (D.getD i Md.o).f
  g : ∀ i, i < D.length → RowI w B (P.getD i (undef, undef)).2 (D.getD i Md.o).ws
  gg : ∀ i j, i < D.length → j < D.length → i ≠ j → Sep (P.getD i (undef, undef)).2 (P.getD j (undef, undef)).2
  fg : ∀ i j, i < D.length → j < D.length → Sep (P.getD i (undef, undef)).1 (P.getD j (undef, undef)).2
theorem DvM.nil (w : World) (B : Nat) : DvM w B (.slice none 0 0) [] [] := ⟨rfl, World.ownsRow_nil _ _ _ _, fun i hi => absurd hi (by simp), fun i hi => absurd hi (by simp), fun i j hi => absurd hi (by simp), fun i j hi => absurd hi (by simp)⟩
theorem DvM.to {w w' : World} {B : Nat} {v : Value} {D : List Md} {P : List (Value × Value)} (h : DvM w B v D P) (hb : Below w.heap.size w w') : DvM w' B v D P :=
  ⟨h.len, owns_below h.own hb, fun i hi => owns_below (h.f i hi) hb, fun i hi => owns_below (h.g i hi) hb, h.gg, h.fg⟩
theorem RowI.ints {w : World} {B : Nat} {v : Value} {L : List Int} (h : RowI w B v L) : Ints w w.heap.size v L := Ints.of_own h
theorem DvM.mods {w : World} {B : Nat} {v : Value} {D : List Md} {P : List (Value × Value)} (h : DvM w B v D P) : Mods w w.heap.size v D := by
  refine ⟨fun i => (P.getD i (undef, undef)).1, fun i => (P.getD i (undef, undef)).2, Sl.of_owns h.own fun i j hi hj => ?_, fun i hi => ⟨(h.f i hi).ints, (h.g i hi).ints⟩⟩
  have hp : i < P.length := by rw [h.len]; exact hi
  rcases (by omega : j = 0 ∨ j = 1) with rfl | rfl
  · exact flat2_at0 P hp
  · exact flat2_at1 P hp
theorem Sep.fresh {a b : Value} {n : Nat} (ha : ∀ k, a.ownBlock = some k → k < n) (hb : ∀ k, b.ownBlock = some k → n ≤ k) : Sep a b := fun k h1 h2 => by
  have := ha k h1
  have := hb k h2
  omega
theorem Sep.symm {a b : Value} (h : Sep a b) : Sep b a := fun k h1 h2 => h k h2 h1
theorem RowI.lt9 {w : World} {B : Nat} {v : Value} {L : List Int} (h : RowI w B v L) : ∀ k, v.ownBlock = some k → B ≤ k ∧ k < w.heap.size := fun k hk => World.ownsRow.lt h k hk
/-- A row stays where its block is not the one that grew. -/
theorem RowI.kept {w w' : World} {B : Nat} {v u : Value} {L : List Int} {o : Obj} (h : RowI w B v L) (hs : Sep v u) (hg : (w.alloc o).grownBy w' u.ownBlock) : RowI w' B v L :=
  ownsRow_same (h : w.ownsRow B 3 1 v L.length (L.map (Value.int .i64))) fun b hb => (hg.block b (by have := (h.lt9 b hb).2; simp; omega) (fun e => hs b hb e.symm)).trans (Below.heap_alloc _ _ _ (h.lt9 b hb).2)
/-- A new module. -/
theorem DvM.push {w w' : World} {B n : Nat} {v v1 x y : Value} {D : List Md} {P : List (Value × Value)} {o : Obj} {f ws : List Int} (h : DvM w B v D P) (hx : RowI w B x f) (hy : RowI w B y ws)
    (hD : ∀ i, i < D.length → (∀ k, (P.getD i (undef, undef)).1.ownBlock = some k → k < n) ∧ ∀ k, (P.getD i (undef, undef)).2.ownBlock = some k → k < n) (hxn : ∀ k, x.ownBlock = some k → n ≤ k) (hyn : ∀ k, y.ownBlock = some k → n ≤ k) (hxy : Sep x y)
    (hown : w'.ownsRow B 53 2 v1 (D.length + 1) (flat2 P ++ [x, y])) (hg : (w.alloc o).grownBy w' v.ownBlock) : DvM w' B v1 (D ++ [⟨f, ws⟩]) (P ++ [(x, y)]) := by
  have hl := h.len
  have keep : ∀ (u : Value) (L : List Int), RowI w B u L → RowI w' B u L := fun u L hu => ownsKeep hu h.own (by decide) hg
  have hP : ∀ i, (P ++ [(x, y)]).getD i (undef, undef) = if i < D.length then P.getD i (undef, undef) else if i = D.length then (x, y) else (undef, undef) := fun i => by
    rw [getD_snoc, hl]
  have hDD : ∀ i, i ≤ D.length → (D ++ [(⟨f, ws⟩ : Md)]).getD i Md.o = if i < D.length then D.getD i Md.o else ⟨f, ws⟩ := fun i hi => by
    rw [getD_snoc]
    by_cases h1 : i < D.length
    · rw [if_pos h1, if_pos h1]
    · rw [if_neg h1, if_neg h1, if_pos (by omega)]
  have hlen : (D ++ [(⟨f, ws⟩ : Md)]).length = D.length + 1 := by simp
  refine ⟨by simp [hl], by rw [hlen, flat2_snoc]; exact hown, fun i hi => ?_, fun i hi => ?_, fun i j hi hj hij => ?_, fun i j hi hj => ?_⟩
  · rw [hlen] at hi
    rw [hP i, hDD i (by omega)]
    by_cases h1 : i < D.length
    · rw [if_pos h1, if_pos h1]; exact keep _ _ (h.f i h1)
    · rw [if_neg h1, if_neg h1, if_pos (by omega)]; exact keep _ _ hx
  · rw [hlen] at hi
    rw [hP i, hDD i (by omega)]
    by_cases h1 : i < D.length
    · rw [if_pos h1, if_pos h1]; exact keep _ _ (h.g i h1)
    · rw [if_neg h1, if_neg h1, if_pos (by omega)]; exact keep _ _ hy
  · rw [hlen] at hi hj
    rw [hP i, hP j]
    by_cases h1 : i < D.length
    · rw [if_pos h1]
      by_cases h2 : j < D.length
      · rw [if_pos h2]; exact h.gg i j h1 h2 hij
      · rw [if_neg h2, if_pos (by omega)]; exact Sep.fresh (hD i h1).2 hyn
    · rw [if_neg h1, if_pos (by omega)]
      by_cases h2 : j < D.length
      · rw [if_pos h2]; exact (Sep.fresh (hD j h2).2 hyn).symm
      · omega
  · rw [hlen] at hi hj
    rw [hP i, hP j]
    by_cases h1 : i < D.length
    · rw [if_pos h1]
      by_cases h2 : j < D.length
      · rw [if_pos h2]; exact h.fg i j h1 h2
      · rw [if_neg h2, if_pos (by omega)]; exact Sep.fresh (hD i h1).1 hyn
    · rw [if_neg h1, if_pos (by omega)]
      by_cases h2 : j < D.length
      · rw [if_pos h2]; exact (Sep.fresh (hD j h2).2 hxn).symm
      · rw [if_neg h2, if_pos (by omega)]; exact hxy
/-- One wire more in module k: its row grows, and the module's cell is written. -/
theorem DvM.add {w w1 w2 : World} {B k g n q c : Nat} {v1 : Value} {D : List Md} {P : List (Value × Value)} {o : Obj} (h : DvM w B (.slice (some ⟨g, 0, none⟩) n q) D P) (hn : n = D.length) (hk : k < D.length)
    (hown : w1.ownsRow B 3 1 v1 ((D.getD k Md.o).ws.length + 1) ((D.getD k Md.o).ws.map (Value.int .i64) ++ [.int .i64 (c : Nat)])) (hg : (w.alloc o).grownBy w1 (P.getD k (undef, undef)).2.ownBlock) (hat : v1.ownBlock = (P.getD k (undef, undef)).2.ownBlock ∨ v1.ownBlock = some (w.alloc o).heap.size)
    (hw2 : w1.setCell ⟨g, k * 2 + 1, none⟩ v1 = w2) : DvM w2 B (.slice (some ⟨g, 0, none⟩) n q) (putD D k c) (P.set k ((P.getD k (undef, undef)).1, v1)) := by
  subst hn
  have hl := h.len
  have hkP : k < P.length := by omega
  have hgk := h.g k hk
  have hO1 : w1.ownsRow B 53 2 (.slice (some ⟨g, 0, none⟩) D.length q) D.length (flat2 P) := ownsKeep h.own hgk (by decide) hg
  obtain ⟨g', hge, _, _, cur, hcur⟩ : ∃ g', (some ⟨g, 0, none⟩ : Option Addr) = some ⟨g', 0, none⟩ ∧ B ≤ g' ∧ D.length ≤ q ∧ ∃ cur, w1.heap[g']? = some (.cells cur 53 (0, 0)) := own_at7 hO1 (by omega)
  injection hge with hge
  injection hge with hge _
  subst hge
  obtain ⟨hst, _⟩ := hO1.stored (k * 2 + 1) v1
  rw [hw2, flat2_set P v1 hkP] at hst
  have hoth : ∀ b, b ≠ g → w2.heap[b]? = w1.heap[b]? := fun b hb => by rw [← hw2]; exact Below.heap_setCell _ _ _ _ hb
  have keep1 : ∀ (u : Value) (L : List Int), RowI w1 B u L → RowI w2 B u L := fun u L hu => ownsRow_same hu fun b hb => hoth b (fun e => by
    subst e
    exact owns_not hu hcur (by decide) hb)
  have keep : ∀ (u : Value) (L : List Int), RowI w B u L → Sep u (P.getD k (undef, undef)).2 → RowI w2 B u L := fun u L hu hs => keep1 u L (hu.kept hs hg)
  have hnew : ∀ (u : Value) (L : List Int), RowI w B u L → Sep u (P.getD k (undef, undef)).2 → Sep u v1 := fun u L hu hs b h1 h2 => by
    rcases hat with h3 | h3
    · exact hs b h1 (h3 ▸ h2)
    · rw [h3] at h2
      injection h2 with h2
      have := (hu.lt9 b h1).2
      simp at h2
      omega
  have hP : ∀ i, (P.set k ((P.getD k (undef, undef)).1, v1)).getD i (undef, undef) = if i = k then ((P.getD k (undef, undef)).1, v1) else P.getD i (undef, undef) := fun i => getD_set9 P _ _ hkP i
  have hDD : ∀ i, (putD D k c).getD i Md.o = if i = k then ⟨(D.getD k Md.o).f, (D.getD k Md.o).ws ++ [(c : Int)]⟩ else D.getD i Md.o := fun i => getD_set9 D _ _ hk i
  have hlen : (putD D k c).length = D.length := by unfold putD; rw [List.length_set]
  refine ⟨by rw [List.length_set, hlen]; exact hl, by rw [hlen]; exact hst, fun i hi => ?_, fun i hi => ?_, fun i j hi hj hij => ?_, fun i j hi hj => ?_⟩
  · rw [hlen] at hi
    rw [hP i, hDD i]
    by_cases h1 : i = k
    · rw [if_pos h1, if_pos h1]; exact keep _ _ (h.f k hk) (h.fg k k hk hk)
    · rw [if_neg h1, if_neg h1]; exact keep _ _ (h.f i hi) (h.fg i k hi hk)
  · rw [hlen] at hi
    rw [hP i, hDD i]
    by_cases h1 : i = k
    · rw [if_pos h1, if_pos h1]
      refine keep1 _ _ ?_
      show w1.ownsRow B 3 1 v1 ((D.getD k Md.o).ws ++ [(c : Int)]).length (((D.getD k Md.o).ws ++ [(c : Int)]).map (Value.int .i64))
      rw [List.length_append, List.length_singleton, List.map_append]
      exact hown
    · rw [if_neg h1, if_neg h1]; exact keep _ _ (h.g i hi) (h.gg i k hi hk h1)
  · rw [hlen] at hi hj
    rw [hP i, hP j]
    by_cases h1 : i = k
    · rw [if_pos h1]
      by_cases h2 : j = k
      · omega
      · rw [if_neg h2]; exact (hnew _ _ (h.g j hj) (h.gg j k hj hk h2)).symm
    · rw [if_neg h1]
      by_cases h2 : j = k
      · rw [if_pos h2]; exact hnew _ _ (h.g i hi) (h.gg i k hi hk h1)
      · rw [if_neg h2]; exact h.gg i j hi hj hij
  · rw [hlen] at hi hj
    rw [hP i, hP j]
    by_cases h1 : i = k
    · rw [if_pos h1]
      by_cases h2 : j = k
      · rw [if_pos h2]; exact hnew _ _ (h.f k hk) (h.fg k k hk hk)
      · rw [if_neg h2]; exact h.fg k j hk hj
    · rw [if_neg h1]
      by_cases h2 : j = k
      · rw [if_pos h2]; exact hnew _ _ (h.f i hi) (h.fg i k hi hk)
      · rw [if_neg h2]; exact h.fg i j hi hj
end Go.Proofs.Ytehadoecnmfeoaa
/- Formulas copied: walk. -/
namespace Go.Proofs.Ytehadoecnmfeoaa
open Go.RowKit
set_option linter.unusedVariables false
set_option linter.unusedSimpArgs false
theorem ints_own6 {w : World} {base : Nat} {v : Value} {l : List Int} (h : w.ownsRow base 3 1 v l.length (l.map (Value.int .i64))) : Ints w w.heap.size v l :=
  Sl.of_owns h fun i j hi hj => by
    obtain rfl : j = 0 := by omega
    rw [Nat.mul_one, Nat.add_zero, List.getElem?_map]
    simp [hi]
/-- Formulas in rows of their own, in a row of the call's own. -/
structure FoS (w0 wr : World) (B : Nat) (v : Value) (L : List (List Int)) (vs : List Value) : Prop where
  below : Below w0.heap.size w0 wr
  len : vs.length = L.length
  own : wr.ownsRow B 51 1 v L.length vs
  row : ∀ i, i < L.length → wr.ownsRow B 3 1 (vs.getD i undef) (L.getD i []).length ((L.getD i []).map (Value.int .i64))
  lt : w0.heap.size ≤ B ∧ B ≤ wr.heap.size
theorem FoS.to {w0 wr w' : World} {B : Nat} {v : Value} {L : List (List Int)} {vs : List Value} (h : FoS w0 wr B v L vs) (hb : Below wr.heap.size wr w') : FoS w0 w' B v L vs :=
  ⟨Below.to h.below hb (Nat.le_refl _), h.len, owns_below h.own hb, fun i hi => owns_below (h.row i hi) hb, h.lt.1, Nat.le_trans h.lt.2 hb.size⟩
theorem FoS.push {w0 wr w' : World} {B : Nat} {v v1 x : Value} {L : List (List Int)} {vs : List Value} {f : List Int} {o : Obj} (h : FoS w0 wr B v L vs) (hx : wr.ownsRow B 3 1 x f.length (f.map (Value.int .i64))) (hown : w'.ownsRow B 51 1 v1 (L.length + 1) (vs ++ [x])) (hg : (wr.alloc o).grownBy w' v.ownBlock) : FoS w0 w' B v1 (L ++ [f]) (vs ++ [x]) := by
  have hl := h.len
  refine ⟨own_low h.below h.own h.lt.1 hg, by simp [hl], by rw [List.length_append]; exact hown, fun i hi => ?_, h.lt.1, by have := hg.size; simp at this; have := h.lt.2; omega⟩
  rcases Nat.lt_or_ge i L.length with h1 | h1
  · rw [List.getD_eq_getElem?_getD, List.getElem?_append_left (by omega), ← List.getD_eq_getElem?_getD, List.getD_eq_getElem?_getD (l := L ++ [f]), List.getElem?_append_left h1, ← List.getD_eq_getElem?_getD]
    exact ownsKeep (h.row i h1) h.own (by decide) hg
  · have he : i = L.length := by simp at hi; omega
    subst he
    rw [List.getD_eq_getElem?_getD, List.getElem?_append_right (by omega), List.getD_eq_getElem?_getD (l := L ++ [f]), List.getElem?_append_right (Nat.le_refl _), hl, Nat.sub_self]
    exact ownsKeep hx h.own (by decide) hg
theorem FoS.forms {w0 wr : World} {B : Nat} {v : Value} {L : List (List Int)} {vs : List Value} (h : FoS w0 wr B v L vs) : Forms wr wr.heap.size v L := by
  refine ⟨fun i => vs.getD i undef, Sl.of_owns h.own fun i j hi hj => ?_, fun i hi => ints_own6 (h.row i hi)⟩
  obtain rfl : j = 0 := by omega
  have := h.len
  have hi2 : i < vs.length := by omega
  rw [Nat.mul_one, Nat.add_zero]
  simp [hi2]
end Go.Proofs.Ytehadoecnmfeoaa
/- A loom copied: walk. -/
namespace Go.Proofs.Ytehadoecnmfeoaa
open Go.RowKit
set_option linter.unusedVariables false
set_option linter.unusedSimpArgs false
def spF (l : List Sp) (i j : Nat) : Value := spC (l.getD i Sp.o) j
def ruF (l : List Ru) (i j : Nat) : Value := ruC (l.getD i Ru.o) j
def plF (l : List Pl) (i j : Nat) : Value := plC (l.getD i Pl.o) j
def wiF (l : List Wi) (cv : Nat → Value) (i j : Nat) : Value := wiC (l.getD i Wi.o) (cv i) j
def nmF (l : List ByteArray) (i j : Nat) : Value := .string (l.getD i ByteArray.empty)
/-- Formulas in rows of their own. -/
structure FoO (wr : World) (B : Nat) (v : Value) (L : List (List Int)) (vs : List Value) : Prop where
  len : vs.length = L.length
  own : wr.ownsRow B 51 1 v L.length vs
  row : ∀ i, i < L.length → wr.ownsRow B 3 1 (vs.getD i undef) (L.getD i []).length ((L.getD i []).map (Value.int .i64))
theorem FoO.below {wr w' : World} {B : Nat} {v : Value} {L : List (List Int)} {vs : List Value} (h : FoO wr B v L vs) (hb : Below wr.heap.size wr w') : FoO w' B v L vs := ⟨h.len, owns_below h.own hb, fun i hi => owns_below (h.row i hi) hb⟩
theorem FoO.grown {wr w' : World} {B g t : Nat} {v : Value} {L : List (List Int)} {vs : List Value} {C : Array Value} (h : FoO wr B v L vs) (hg : wr.grownBy w' (some g)) (ht : wr.heap[g]? = some (.cells C t (0, 0))) (h1 : 51 ≠ t) (h2 : 3 ≠ t) : FoO w' B v L vs := ⟨h.len, owns_grown h.own hg ht h1, fun i hi => owns_grown (h.row i hi) hg ht h2⟩
theorem FoO.forms {wr : World} {B : Nat} {v : Value} {L : List (List Int)} {vs : List Value} (h : FoO wr B v L vs) : Forms wr wr.heap.size v L := by
  refine ⟨fun i => vs.getD i undef, Sl.of_owns h.own fun i j hi hj => ?_, fun i hi => ints_own6 (h.row i hi)⟩
  obtain rfl : j = 0 := by omega
  have := h.len
  have hi2 : i < vs.length := by omega
  rw [Nat.mul_one, Nat.add_zero]
  simp [hi2]
/-- Numbers apart from some blocks. -/
def IntsX (w : World) (X : Nat → Prop) (v : Value) (f : List Int) : Prop :=
  ∃ (A : Option Addr) (b off cap : Nat), v = .slice A f.length cap ∧ f.length ≤ cap ∧ (A = some ⟨b, off, none⟩ ∧ b < w.heap.size ∧ ¬ X b ∨ f.length = 0) ∧ ∀ i, i < f.length → w.cell? ⟨b, off + i, none⟩ = some (.int .i64 (f.getD i 0))
theorem IntsX.ints {w : World} {X : Nat → Prop} {v : Value} {f : List Int} (h : IntsX w X v f) : Ints w w.heap.size v f := by
  obtain ⟨A, b, off, cap, h1, h2, h3, h4⟩ := h
  refine ⟨A, b, off, cap, h1, h2, h3.imp (fun ⟨a, c, _⟩ => ⟨a, c⟩) id, fun i j hi hj => ?_⟩
  obtain rfl : j = 0 := by omega
  rw [Nat.mul_one, Nat.add_zero]
  exact h4 i hi
theorem IntsX.of {w : World} {B : Nat} {X : Nat → Prop} {v : Value} {f : List Int} (h : Ints w B v f) (hB : B ≤ w.heap.size) (hg : ∀ b, X b → B ≤ b) : IntsX w X v f := by
  obtain ⟨A, b, off, cap, h1, h2, h3, h4⟩ := h
  refine ⟨A, b, off, cap, h1, h2, h3.imp (fun ⟨a, c⟩ => ⟨a, by omega, fun e => by have := hg b e; omega⟩) id, fun i hi => ?_⟩
  have := h4 i 0 hi (by omega)
  rwa [Nat.mul_one, Nat.add_zero] at this
theorem IntsX.keeps {w w' : World} {X : Nat → Prop} {row : Option Nat} {v : Value} {f : List Int} (h : IntsX w X v f) (hg : w.grownBy w' row) (hX : ∀ k, row = some k → X k) : IntsX w' X v f := by
  obtain ⟨A, b, off, cap, h1, h2, h3, h4⟩ := h
  refine ⟨A, b, off, cap, h1, h2, h3.imp (fun ⟨a, c, d⟩ => ⟨a, Nat.lt_of_lt_of_le c hg.size, d⟩) id, fun i hi => ?_⟩
  rcases h3 with ⟨_, hb, hne⟩ | h0
  · rw [World.cell?_of_block (a := ⟨b, off + i, none⟩) (hg.block b hb (fun e => hne (hX b e.symm)))]
    exact h4 i hi
  · omega
theorem IntsX.own {w : World} {base rb e sz n : Nat} {xs : List Value} {gv v : Value} {f : List Int} (h : w.ownsRow base 3 1 v f.length (f.map (Value.int .i64))) (hg : w.ownsRow base e sz gv n xs) (hne : 3 ≠ e) (hrb : rb < base) : IntsX w (fun b => b = rb ∨ gv.ownBlock = some b) v f := by
  have h0 := ints_own6 h
  have hlt := h.lt
  obtain ⟨A, b, off, cap, h1, h2, h3, h4⟩ := h0
  refine ⟨A, b, off, cap, h1, h2, h3.imp (fun ⟨a, c⟩ => ⟨a, c, fun q => ?_⟩) id, fun i hi => by have := h4 i 0 hi (by omega); rwa [Nat.mul_one, Nat.add_zero] at this⟩
  have hbb := (hlt b (by rw [h1, a]; rfl)).1
  rcases q with q | q
  · omega
  obtain ⟨_, ⟨h5, _⟩ | ⟨g', cp, cur, h5, _, h6, _⟩⟩ := hg
  · rw [h5] at q; cases q
  · rw [h5] at q
    injection q with q
    simp only at q
    subst q
    exact ownsNot h h6 hne (by rw [h1, a]; rfl)
/-- The copy while the wires' formulas are copied. -/
structure CpS (w0 wr : World) (rb p : Nat) (C0 C1 C2 C3 C4 C5 : Option Addr) (r0 r1 r2 r3 r4 r5 : Nat) (l : Lo) (cv : Nat → Value) (vs : List Value) : Prop where
  below : Below w0.heap.size w0 wr
  pw : w0.heap.size ≤ p
  box : wr.heap[p]? = some (.cells #[.slice C0 l.m.opts.length r0, .slice C1 l.m.rules.length r1, .slice C2 l.ss.length r2, .slice C3 l.us.length r3, .slice C4 l.ps.length r4, .slice C5 l.ws.length r5] 41 (0, 0))
  n : wr.ownsRow w0.heap.size 9 1 (.slice C0 l.m.opts.length r0) l.m.opts.length (flat l.m.opts.length 1 (nmF l.m.opts))
  f : FoO wr w0.heap.size (.slice C1 l.m.rules.length r1) l.m.rules vs
  s : wr.ownsRow w0.heap.size 112 3 (.slice C2 l.ss.length r2) l.ss.length (flat l.ss.length 3 (spF l.ss))
  u : wr.ownsRow w0.heap.size 114 4 (.slice C3 l.us.length r3) l.us.length (flat l.us.length 4 (ruF l.us))
  p : wr.ownsRow w0.heap.size 116 3 (.slice C4 l.ps.length r4) l.ps.length (flat l.ps.length 3 (plF l.ps))
  w : wr.ownsRow w0.heap.size 61 7 (.slice C5 l.ws.length r5) l.ws.length (flat l.ws.length 7 (wiF l.ws cv))
  x : ∀ i, i < l.ws.length → IntsX wr (fun b => b = rb ∨ (Value.slice C5 l.ws.length r5).ownBlock = some b) (cv i) (l.ws.getD i Wi.o).form
  rb : rb < w0.heap.size
theorem CpS.loom {w0 wr : World} {rb p : Nat} {C0 C1 C2 C3 C4 C5 : Option Addr} {r0 r1 r2 r3 r4 r5 : Nat} {l : Lo} {cv : Nat → Value} {vs : List Value} (h : CpS w0 wr rb p C0 C1 C2 C3 C4 C5 r0 r1 r2 r3 r4 r5 l cv vs) : LoA wr wr.heap.size C0 C1 C2 C3 C4 C5 r0 r1 r2 r3 r4 r5 l :=
  ⟨⟨Sl.of_owns h.n fun i j hi hj => (flat_get hi hj).trans rfl, h.f.forms⟩, Sl.of_owns h.s fun i j hi hj => flat_get hi hj, Sl.of_owns h.u fun i j hi hj => flat_get hi hj, Sl.of_owns h.p fun i j hi hj => flat_get hi hj, cv, Sl.of_owns h.w fun i j hi hj => flat_get hi hj, fun i hi => (h.x i hi).ints⟩
theorem CpS.to {w0 wr w' : World} {rb p : Nat} {C0 C1 C2 C3 C4 C5 : Option Addr} {r0 r1 r2 r3 r4 r5 : Nat} {l : Lo} {cv : Nat → Value} {vs : List Value} (h : CpS w0 wr rb p C0 C1 C2 C3 C4 C5 r0 r1 r2 r3 r4 r5 l cv vs) (hb : Below wr.heap.size wr w') : CpS w0 w' rb p C0 C1 C2 C3 C4 C5 r0 r1 r2 r3 r4 r5 l cv vs :=
  ⟨Below.to h.below hb (Nat.le_refl _), h.pw, heap_below h.box hb, owns_below h.n hb, h.f.below hb, owns_below h.s hb, owns_below h.u hb, owns_below h.p hb, owns_below h.w hb, fun i hi => (h.x i hi).keeps (grown_of_below (row := none) hb) (fun k hk => by cases hk), h.rb⟩
/-- What each operation of the copy's first statement leaves. -/
def copR (w0 : World) (l : Lo) (cv : Nat → Value) (j : Nat) (v : Value) (w : World) : Prop :=
  match j with
  | 0 => w0.heap.size ≤ w.heap.size ∧ ∃ g, v = .slice (some ⟨g, 0, none⟩) 0 0 ∧ w.ownsRow w0.heap.size 112 3 v 0 []
  | 4 => w0.heap.size ≤ w.heap.size ∧ ∃ g, v = .slice (some ⟨g, 0, none⟩) 0 0 ∧ w.ownsRow w0.heap.size 114 4 v 0 []
  | 8 => w0.heap.size ≤ w.heap.size ∧ ∃ g, v = .slice (some ⟨g, 0, none⟩) 0 0 ∧ w.ownsRow w0.heap.size 116 3 v 0 []
  | 12 => w0.heap.size ≤ w.heap.size ∧ ∃ g, v = .slice (some ⟨g, 0, none⟩) 0 0 ∧ w.ownsRow w0.heap.size 61 7 v 0 []
  | 3 => w.ownsRow w0.heap.size 112 3 v l.ss.length (flat l.ss.length 3 (spF l.ss))
  | 7 => w.ownsRow w0.heap.size 114 4 v l.us.length (flat l.us.length 4 (ruF l.us))
  | 11 => w.ownsRow w0.heap.size 116 3 v l.ps.length (flat l.ps.length 3 (plF l.ps))
  | 15 => w.ownsRow w0.heap.size 61 7 v l.ws.length (flat l.ws.length 7 (wiF l.ws cv))
  | 16 => ∃ a b c d, v = .agg #[.slice none 0 0, .slice none 0 0, a, b, c, d] ∧ w.ownsRow w0.heap.size 112 3 a l.ss.length (flat l.ss.length 3 (spF l.ss)) ∧ w.ownsRow w0.heap.size 114 4 b l.us.length (flat l.us.length 4 (ruF l.us)) ∧
      w.ownsRow w0.heap.size 116 3 c l.ps.length (flat l.ps.length 3 (plF l.ps)) ∧ w.ownsRow w0.heap.size 61 7 d l.ws.length (flat l.ws.length 7 (wiF l.ws cv))
  | 17 => ∃ p, v = .pointer (some ⟨p, 0, none⟩) ∧ w0.heap.size ≤ p ∧ w.heap[p]? = some (.cells #[.slice none 0 0, .slice none 0 0, .slice none 0 0, .slice none 0 0, .slice none 0 0, .slice none 0 0] 41 (0, 0))
  | _ => True
end Go.Proofs.Ytehadoecnmfeoaa
/- Slices cloned: walks. -/
namespace Go.Proofs.Ytehadoecnmfeoaa
open Go.RowKit
set_option linter.unusedVariables false
set_option linter.unusedSimpArgs false
theorem Reads.none6 {w : World} {B sz n : Nat} {xs : List Value} (h : Reads w B sz none n xs) : n = 0 ∧ xs = [] := by
  rcases Nat.eq_zero_or_pos n with h0 | h0
  · subst h0
    have := h.1
    rw [Nat.zero_mul] at this
    exact ⟨rfl, List.eq_nil_of_length_eq_zero this⟩
  · obtain ⟨ad, h1, _⟩ := h.2 h0
    cases h1
set_option maxRecDepth 100000 in
set_option maxHeartbeats 2000000 in
theorem cloneFm_any (A : Option Addr) (n q : Nat) (xs : List Value) (w : World) (h : Reads w w.heap.size 1 A n xs) (h1 : ∀ u ∈ xs, u.oneCell' = true) (hl : n ≤ 1000) :
    Calls Try.prog 35 #[.slice A n q] w fun e w' => ∃ v, e = .returned v ∧ w'.ownsRow w.heap.size 3 1 v n xs ∧ Below w.heap.size w w' := by
  obtain ⟨i1, hi1, jz0, jz1, jz2⟩ := info_parts infoInt
  have q22 : ∀ (w : World) (a : Option Addr) (n c n' c' : Nat), (binOp .eql 51 (.slice a n c) (.slice none n' c')).run Try.prog w = .ok (.bool a.isNone) w := fun w a n c n' c' => Lib.run_eql_slice_nil w _ _ a n c n' c' Try.underlying51
  cases A with
  | none =>
    obtain ⟨hn, hx⟩ := Reads.none6 h
    subst hn hx
    clear h h1
    go_enter Try.func35, Try.ntmps35
    go_wp2_with fail
    go_ret
    exact ⟨_, rfl, World.ownsRow_nil _ _ _ _, Below.refl _ _⟩
  | some ad =>
    have HR := hide h
    have H1 := hide h1
    clear h h1
    go_enter Try.func35, Try.ntmps35
    go_wp2_with (at_builtin; refine wpList_append_any _ rfl (.tmp 5) (.tmp 6) _ rfl w.heap.size 3 i1 _ 1 8 Try.underlying51 hi1 jz0 jz1 jz2 rfl (by decide) _ 0 [] rfl (World.ownsRow_made w #[] 0 (Nat.le_refl _) (by unfold maxLen; omega) rfl) w.heap.size (some ad) n q xs rfl (HR.out.alloc (Nat.le_refl _) _) H1.out (by unfold maxLen; omega) (by omega) (by simp) ?_; intro v1 w1 hown1 hg1 _; rw [Nat.zero_add, List.nil_append] at hown1; have HO := hide hown1; have HG := hide hg1; clear hown1 hg1)
    go_ret
    exact ⟨v1, rfl, HO.out, Below.grown (Below.allocT (Below.refl _ _) (Nat.le_refl _) _) HG.out (by simp) (fun j hj => by injection hj with hj; exact Nat.le_of_eq hj)⟩

end Go.Proofs.Ytehadoecnmfeoaa

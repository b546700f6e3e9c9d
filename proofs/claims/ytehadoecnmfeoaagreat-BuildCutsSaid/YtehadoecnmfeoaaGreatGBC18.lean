/- Part 18 of this claim's texts: walks and plain laws. -/
import Derived.Test.YtehadoecnmfeoaaGreatRows
import Derived.Test.YtehadoecnmfeoaaGreatGBC17
import Derived.Test.YtehadoecnmfeoaaGreatGBC8
import Derived.Deep.RegionHeld3
import Derived.Deep.DrawnRows
import Derived.Test.YtehadoecnmfeoaaGreatGBC16
import Derived.Laws.EntriesVeiled
/- What is reached: walks. -/
namespace Go.Proofs.YtehadoecnmfeoaaGreat
open Go.RowKit
set_option linter.unusedVariables false
set_option linter.unusedSimpArgs false
set_option maxRecDepth 100000 in
theorem indexN_any (ns : List Nat) (s : Nat) (v : Value) (B : Nat) (w : World) (hm : ns.length ≤ maxLen) (h : Nods w B v ns) :
    Calls Tryz.prog 194 #[v, .int .i64 s] w fun e w' => e = .returned (.int .i64 (idxI (fun x => x == s) ns)) ∧ w = w' := by
  unfold maxLen at hm
  obtain ⟨A, b, off, cap, rfl, hnc, hA, hc⟩ := h
  have HC := hide hc
  have HA := hide hA
  clear hc hA
  go_enter Tryz.func194, Tryz.ntmps194
  go_wp2
  go_loop [8] (fun i => ∃ k : Nat, k ≤ ns.length ∧ i = .int .i64 k ∧ Hid (∀ j, j < k → (ns.getD j 0 == s) = false)) (fun i => ns.length - (intOf i).toNat)
  case atStart => exact ⟨0, Nat.zero_le _, rfl, fun j hj => by omega⟩
  case round =>
    obtain ⟨k, hk, rfl, hall⟩ := hrel
    by_cases hlt : k < ns.length
    · obtain ⟨rfl, hbb⟩ : A = some ⟨b, off, none⟩ ∧ b < B := by
        rcases HA.out with h | h
        · exact h
        · omega
      obtain ⟨x, hx⟩ : ∃ x, ns.getD k 0 = x := ⟨_, rfl⟩
      have c0 : w.cell? ⟨b, off + k, none⟩ = some (.int .i64 x) := by
        have h1 := HC.out k 0 hlt (by omega)
        rw [Nat.mul_one, Nat.add_zero, hx] at h1
        exact h1
      have HX := hide hx
      clear hx
      by_cases he : x = s
      · have he1 : ((s : Int) == (x : Int)) = true := by simp [he]
        have HE := hide he
        clear he
        go_wp2
        go_ret
        exact ⟨ret_int (idxI_at _ 0 ns k hall.out hlt (by rw [HX.out, HE.out]; simp)).symm, rfl⟩
      · have he1 : ((s : Int) == (x : Int)) = false := by simp; omega
        have he2 : ¬ (s : Int) = (x : Int) := by omega
        have HE := hide he
        clear he
        go_wp2
        go_round
        case rel => exact ⟨k + 1, by omega, by go_num, fun j hj => by
            rcases Nat.lt_or_ge j k with h | h
            · exact hall.out j h
            · rw [show j = k from by omega, HX.out]; simpa using HE.out⟩
        case measure => simp [intOf]; omega
    · go_wp2
      go_ret
      exact ⟨ret_int (idxI_none _ 0 ns (fun j hj => hall.out j (by omega))).symm, rfl⟩
set_option maxRecDepth 100000 in
theorem containsN_any (ns : List Nat) (s : Nat) (v : Value) (B : Nat) (w : World) (c : Bool) (hm : ns.length ≤ maxLen) (h : Nods w B v ns) (hc : decide (s ∈ ns) = c) :
    Calls Tryz.prog 123 #[v, .int .i64 s] w fun e w' => e = .returned (.bool c) ∧ w = w' := by
  have he : c = decide (0 ≤ idxI (fun x => x == s) ns) := by
    rw [idxI_any, ← hc, Bool.eq_iff_iff]
    simp
  have HE := hide he
  have H := hide h
  clear he h hc
  go_enter Tryz.func123, Tryz.ntmps123
  go_wp2_with (go_at_call 194; refine (indexN_any ns s v B _ hm H.out).mono ?_; rintro e w1 ⟨rfl, rfl⟩)
  go_ret
  exact ⟨ret_bool HE.out.symm, rfl⟩
theorem ownsNot {w : World} {b1 e1 s1 n1 g t : Nat} {v1 : Value} {x1 : List Value} {C : Array Value} (h1 : w.ownsRow b1 e1 s1 v1 n1 x1) (hg : w.heap[g]? = some (.cells C t (0, 0))) (hne : e1 ≠ t) : v1.ownBlock ≠ some g := by
  intro hb
  obtain ⟨_, ⟨rfl, _⟩ | ⟨g', cap, cur, rfl, _, q1, _⟩⟩ := h1
  · cases hb
  · injection hb with hb
    simp only at hb
    subst hb
    rw [q1] at hg
    injection hg with hg
    injection hg with _ hg
    exact hne hg
/-- A list of numbers in a row of the call's own, beside a boxed loom. -/
structure ReaS (w0 wr : World) (B lb : Nat) (A0 A1 A2 A3 A4 A5 : Option Addr) (q0 q1 q2 q3 q4 q5 : Nat) (l : Lo) (v : Value) (S : List Nat) : Prop where
  below : Below w0.heap.size w0 wr
  box : LoBox wr lb A0 A1 A2 A3 A4 A5 q0 q1 q2 q3 q4 q5 l
  own : wr.ownsRow B 3 1 v S.length (S.map fun (n : Nat) => Value.int .i64 n)
  nd : Nods wr wr.heap.size v S
  lt : w0.heap.size ≤ B ∧ B ≤ wr.heap.size
section
variable {w0 wr w' : World} {B lb : Nat} {A0 A1 A2 A3 A4 A5 : Option Addr} {q0 q1 q2 q3 q4 q5 : Nat} {l : Lo} {v v1 : Value} {S : List Nat} {m : Nat} {o : Obj}
theorem ReaS.mk' (h1 : Below w0.heap.size w0 wr) (h2 : LoBox wr lb A0 A1 A2 A3 A4 A5 q0 q1 q2 q3 q4 q5 l) (h3 : wr.ownsRow B 3 1 v S.length (S.map fun (n : Nat) => Value.int .i64 n)) (h4 : w0.heap.size ≤ B ∧ B ≤ wr.heap.size) : ReaS w0 wr B lb A0 A1 A2 A3 A4 A5 q0 q1 q2 q3 q4 q5 l v S :=
  ⟨h1, h2, h3, Nods.of_own h3, h4⟩
theorem ReaS.to (h : ReaS w0 wr B lb A0 A1 A2 A3 A4 A5 q0 q1 q2 q3 q4 q5 l v S) (hb : Below wr.heap.size wr w') : ReaS w0 w' B lb A0 A1 A2 A3 A4 A5 q0 q1 q2 q3 q4 q5 l v S :=
  ⟨Below.to h.below hb (Nat.le_refl _), box_to h.box hb, owns_below h.own hb, h.nd.up hb, h.lt.1, Nat.le_trans h.lt.2 hb.size⟩
theorem ReaS.push (h : ReaS w0 wr B lb A0 A1 A2 A3 A4 A5 q0 q1 q2 q3 q4 q5 l v S) (hown : w'.ownsRow B 3 1 v1 (S.length + 1) ((S.map fun (n : Nat) => Value.int .i64 n) ++ [.int .i64 (m : Nat)])) (hg : (wr.alloc o).grownBy w' v.ownBlock) : ReaS w0 w' B lb A0 A1 A2 A3 A4 A5 q0 q1 q2 q3 q4 q5 l v1 (S ++ [m]) := by
  have hB : Below wr.heap.size wr (wr.alloc o) := (Below.refl _ _).alloc (Nat.le_refl _) _
  have hlow : ∀ k, v.ownBlock = some k → B ≤ k := fun k hk => (h.own.lt k hk).1
  refine ReaS.mk' ?_ ?_ ?_ ⟨h.lt.1, ?_⟩
  · exact Below.grown (Below.to h.below hB (Nat.le_refl _)) hg (by have := h.below.size; simp; omega) (fun k hk => Nat.le_trans h.lt.1 (hlow k hk))
  · exact (hg.block lb (by have := box_lt h.box; simp; omega) (fun e => ownsNot h.own h.box (by decide) e.symm)).trans (box_to h.box hB)
  · rw [List.length_append, List.length_singleton, List.map_append]; exact hown
  · have := hg.size
    simp at this
    have := h.lt.2
    omega
end
end Go.Proofs.YtehadoecnmfeoaaGreat
/- Reels: the search for the first list of the fewest; plain laws. -/
namespace Go.Proofs.YtehadoecnmfeoaaGreat
set_option linter.unusedVariables false
def updL (L : Nat → Int) (r : Nat) (x : Int) : Nat → Int := fun i => if i = r then x else L i
/-- The first way to go on: pieces that are left, what is left of each reel, how many reels are begun. -/
def rlS (most : Nat) : List Int → (Nat → Int) → Nat → Option (List Nat)
  | [], _, _ => some []
  | p :: ps, L, o => (List.range most).findSome? fun r => if r ≤ o ∧ p ≤ L r then (rlS most ps (updL L r (L r - p)) (max o (r + 1))).map (fun l => r :: l) else none
/-- One try. -/
def rlT (most : Nat) (p : Int) (ps : List Int) (L : Nat → Int) (o r : Nat) : Option (List Nat) := if r ≤ o ∧ p ≤ L r then (rlS most ps (updL L r (L r - p)) (max o (r + 1))).map (fun l => r :: l) else none
theorem rlS_cons (most : Nat) (p : Int) (ps : List Int) (L : Nat → Int) (o : Nat) : rlS most (p :: ps) L o = (List.range most).findSome? (rlT most p ps L o) := rfl
theorem findSome_range {α : Type} (f : Nat → Option α) (n : Nat) : (List.range (n + 1)).findSome? f = match (List.range n).findSome? f with | some x => some x | none => f n := by
  rw [List.range_succ, List.findSome?_append]
  cases (List.range n).findSome? f with
  | some x => rfl
  | none =>
    simp only [List.findSome?_cons, List.findSome?_nil]
    cases f n <;> rfl
theorem findSome_none {α : Type} {f : Nat → Option α} {n : Nat} (h : ∀ r, r < n → f r = none) : (List.range n).findSome? f = none := by
  rw [List.findSome?_eq_none_iff]
  intro x hx
  exact h x (by simpa using hx)
theorem findSome_first {α : Type} {f : Nat → Option α} {n k : Nat} {x : α} (h : ∀ r, r < k → f r = none) (hk : f k = some x) (hn : k < n) : (List.range n).findSome? f = some x := by
  induction n with
  | zero => omega
  | succ n ih =>
    rw [findSome_range]
    rcases Nat.lt_or_ge k n with h1 | h1
    · rw [ih h1]
    · have he : k = n := by omega
      subst he
      rw [findSome_none h, hk]
/-- With a reel for each piece there is a way. -/
theorem rlS_enough {most : Nat} : ∀ (ps : List Int) {L : Nat → Int} {o : Nat}, ps.length + o ≤ most → (∀ r, o ≤ r → r < most → ∀ p ∈ ps, p ≤ L r) → (rlS most ps L o).isSome = true
  | [], _, _, _, _ => rfl
  | p :: ps, L, o, hl, h => by
    rw [rlS_cons]
    simp only [List.length_cons] at hl
    have h1 := rlS_enough (most := most) ps (L := updL L o (L o - p)) (o := max o (o + 1)) (by omega) (fun r hr hm q hq => by
      unfold updL
      rw [if_neg (by omega)]
      exact h r (by omega) hm q (by simp [hq]))
    have h2 : (rlT most p ps L o o).isSome = true := by
      unfold rlT
      rw [if_pos ⟨Nat.le_refl _, h o (Nat.le_refl _) (by omega) p (by simp)⟩]
      simpa using h1
    rw [List.findSome?_isSome_iff]
    exact ⟨o, by simp; omega, h2⟩
/-- The reels of some pieces. -/
def relL (ps : List Int) (len : Int) : List Nat := ((List.range (ps.length + 1)).findSome? fun most => rlS most ps (fun _ => len) 0).getD []
def relB (ps : List Int) (len : Int) : Bool := btw len 1 1000000 && decide (ps.length ≤ 12) && ps.all fun p => btw p 1 len
def relE (ps : List Int) (len : Int) : Int := if relB ps len = true then 0 else 121
theorem rel_some {ps : List Int} {len : Int} (h : relB ps len = true) : (rlS ps.length ps (fun _ => len) 0).isSome = true := by
  unfold relB at h
  simp only [Bool.and_eq_true] at h
  exact rlS_enough ps (by omega) fun r _ _ p hp => by
    have := List.all_eq_true.1 h.2 p hp
    rw [btw_iff] at this
    exact this.2
/-- The least number of reels. -/
theorem rel_at {ps : List Int} {len : Int} {k : Nat} {l : List Nat} (h : ∀ r, r < k → rlS r ps (fun _ => len) 0 = none) (hk : rlS k ps (fun _ => len) 0 = some l) (hn : k ≤ ps.length) : relL ps len = l := by
  unfold relL
  rw [findSome_first (f := fun most => rlS most ps (fun _ => len) 0) h hk (by omega)]
  rfl
end Go.Proofs.YtehadoecnmfeoaaGreat
/- The program's search for reels: what its closure has captured. -/
namespace Go.Proofs.YtehadoecnmfeoaaGreat
open Go.RowKit
set_option linter.unusedVariables false
set_option linter.unusedSimpArgs false
theorem ownsRow_same7 {w w' : World} {base e size n : Nat} {v : Value} {xs : List Value} (h : w.ownsRow base e size v n xs) (hs : ∀ b, v.ownBlock = some b → w'.heap[b]? = w.heap[b]?) : w'.ownsRow base e size v n xs := by
  obtain ⟨h1, h2 | ⟨g, cap, cur, rfl, h4, h5, h6⟩⟩ := h
  · exact ⟨h1, .inl h2⟩
  · exact ⟨h1, .inr ⟨g, cap, cur, rfl, h4, (hs g rfl).trans h5, h6⟩⟩
theorem Ints.at7 {w : World} {B : Nat} {A : Option Addr} {m q : Nat} {S : List Int} (h : Ints w B (.slice A m q) S) {k : Nat} (hk : k < S.length) : ∃ b off x, Hid (S.getD k 0 = x) ∧ A = some ⟨b, off, none⟩ ∧ b < B ∧ S.length ≤ q ∧ w.cell? ⟨b, off + k, none⟩ = some (.int .i64 x) := by
  obtain ⟨h1, h2, b, off, h3, h4, h5⟩ := sl_at h hk
  have h6 := h5 0 (by omega)
  rw [Nat.mul_one, Nat.add_zero] at h6
  exact ⟨b, off, _, rfl, h3, h4, by omega, h6⟩
theorem getD_mem7 {α : Type} {l : List α} {z : α} {k : Nat} (h : k < l.length) : l.getD k z ∈ l := by
  rw [List.getD_eq_getElem?_getD, List.getElem?_eq_getElem h]
  exact List.getElem_mem h
/-- Numbers as values. -/
def nvL (S : List Nat) : List Value := S.map fun (n : Nat) => Value.int .i64 n
theorem nvL_snoc (S : List Nat) (k : Nat) : nvL (S ++ [k]) = nvL S ++ [.int .i64 k] := by simp [nvL]
section
variable {w : World}
theorem own_cut {e B : Nat} {A : Option Addr} {m cap : Nat} {xs : List Value} (h : w.ownsRow B e 1 (.slice A m cap) m xs) {r : Nat} (hr : r ≤ m) : w.ownsRow B e 1 (.slice A r cap) r (xs.take r) := by
  obtain ⟨h1, ⟨h2, h3⟩ | ⟨g, cap', cur, h2, h3, h4, h5, h6, h7, h8⟩⟩ := h
  · injection h2 with e1 e2 e3
    subst e1 e3
    obtain rfl : r = 0 := by omega
    exact ⟨by simp, .inl ⟨rfl, rfl⟩⟩
  · injection h2 with e1 e2 e3
    subst e1 e3
    refine ⟨by simp; omega, .inr ⟨g, cap, cur, rfl, h3, h4, by omega, h6, h7, ?_⟩⟩
    rw [← h8, List.take_take, Nat.mul_one, Nat.mul_one, Nat.min_eq_left hr]
theorem own_block (A : Option Addr) (m m' cap cap' : Nat) : (Value.slice A m cap).ownBlock = (Value.slice A m' cap').ownBlock := by cases A <;> rfl
theorem nvL_take (S : List Nat) (a : Nat) : (nvL (S ++ [a])).take S.length = nvL S := by
  rw [nvL_snoc, List.take_append_of_le_length (by simp [nvL])]
  rw [List.take_of_length_le (by simp [nvL])]
end
/-- What is left of the twelve reels, in a block of its own. -/
def LefAt (w : World) (b t : Nat) (L : Nat → Int) : Prop := ∃ C : Array Value, w.heap[b]? = some (.cells C t (0, 0)) ∧ C.size = 12 ∧ ∀ i, i < 12 → C[i]? = some (.int .i64 (L i))
theorem LefAt.cell {w : World} {b t : Nat} {L : Nat → Int} (h : LefAt w b t L) {i : Nat} (hi : i < 12) : w.cell? ⟨b, i, none⟩ = some (.int .i64 (L i)) ∧ w.frozen? ⟨b, i, none⟩ = false ∧ b < w.heap.size := by
  obtain ⟨C, h1, _, h3⟩ := h
  exact ⟨(cellOf h1 i).trans (h3 i hi), unfrozenOf h1 i, box_lt h1⟩
theorem LefAt.of {w w' : World} {b t : Nat} {L : Nat → Int} (h : LefAt w b t L) (hb : w'.heap[b]? = w.heap[b]?) : LefAt w' b t L := by
  obtain ⟨C, h1, h2, h3⟩ := h
  exact ⟨C, hb.trans h1, h2, h3⟩
theorem LefAt.set {w : World} {b t : Nat} {L : Nat → Int} (h : LefAt w b t L) {r : Nat} (hr : r < 12) (x : Int) : LefAt (w.setCell ⟨b, r, none⟩ (.int .i64 x)) b t (updL L r x) := by
  obtain ⟨C, h1, h2, h3⟩ := h
  refine ⟨C.setIfInBounds r (.int .i64 x), setCellOf h1 _, by simpa using h2, fun i hi => ?_⟩
  rw [Array.getElem?_setIfInBounds]
  unfold updL
  by_cases e : r = i
  · subst e
    rw [if_pos rfl, if_pos rfl, if_pos (by omega)]
  · rw [if_neg e, if_neg (fun q => e q.symm)]
    exact h3 i hi
theorem LefAt.same {w : World} {b t : Nat} {L L' : Nat → Int} (h : LefAt w b t L) (hL : ∀ i, L i = L' i) : LefAt w b t L' := by
  obtain ⟨C, h1, h2, h3⟩ := h
  exact ⟨C, h1, h2, fun i hi => by rw [← hL i]; exact h3 i hi⟩
theorem updL_back (L : Nat → Int) (r : Nat) (x : Int) : ∀ i, updL (updL L r x) r (L r) i = L i := by
  intro i
  unfold updL
  by_cases e : i = r
  · subst e; simp
  · rw [if_neg e, if_neg e]
/-- The search's closure, its list and what it has captured. -/
structure RlAt (w0 w : World) (n op pp lp np : Nat) (pv : Value) (L : Nat → Int) (ov : Value) (S : List Nat) : Prop where
  below : Below w0.heap.size w0 w
  pc : w.heap[pp]? = some (.cells #[pv] 45 (0, 0))
  lf : LefAt w lp 160 L
  oc : w.heap[op]? = some (.cells #[ov] 45 (0, 0))
  nc : w.heap[np]? = some (.cells #[.func (.func 118) #[] #[.pointer (some ⟨op, 0, none⟩), .pointer (some ⟨pp, 0, none⟩), .pointer (some ⟨lp, 0, none⟩), .pointer (some ⟨np, 0, none⟩)]] 161 (0, 0))
  own : w.ownsRow n 3 1 ov S.length (nvL S)
  lo : w0.heap.size ≤ op ∧ w0.heap.size ≤ lp ∧ w0.heap.size ≤ n
  hi : op < n ∧ pp < n ∧ lp < n ∧ np < n
  ne : op ≠ pp ∧ op ≠ lp ∧ op ≠ np ∧ lp ≠ pp ∧ lp ≠ np
  sz : n ≤ w.heap.size
section
variable {w0 w w' : World} {n op pp lp np : Nat} {pv ov v1 : Value} {L : Nat → Int} {S : List Nat} {o : Obj} {a : Nat}
theorem RlAt.setL (h : RlAt w0 w n op pp lp np pv L ov S) {r : Nat} (hr : r < 12) (x : Int) : RlAt w0 (w.setCell ⟨lp, r, none⟩ (.int .i64 x)) n op pp lp np pv (updL L r x) ov S := by
  obtain ⟨n1, n2, n3, n4, n5⟩ := h.ne
  exact ⟨Below.setCell h.below h.lo.2.1 _, (Below.heap_setCell _ _ _ _ (fun e => n4 e.symm)).trans h.pc, h.lf.set hr x, (Below.heap_setCell _ _ _ _ n2).trans h.oc, (Below.heap_setCell _ _ _ _ (fun e => n5 e.symm)).trans h.nc, ownsRow_same7 h.own fun k hk => Below.heap_setCell _ _ _ _ (by have := (h.own.lt k hk).1; have := h.hi.2.2.1; show k ≠ lp; omega), h.lo, h.hi, h.ne, by simpa [World.setCell] using h.sz⟩
theorem RlAt.drew (h : RlAt w0 w n op pp lp np pv L ov S) : RlAt w0 w.drew n op pp lp np pv L ov S := ⟨Below.drew h.below, h.pc, h.lf, h.oc, h.nc, h.own, h.lo, h.hi, h.ne, h.sz⟩
theorem RlAt.same {L' : Nat → Int} (h : RlAt w0 w n op pp lp np pv L ov S) (hL : ∀ i, L i = L' i) : RlAt w0 w n op pp lp np pv L' ov S := ⟨h.below, h.pc, h.lf.same hL, h.oc, h.nc, h.own, h.lo, h.hi, h.ne, h.sz⟩
theorem RlAt.sno (h : RlAt w0 w n op pp lp np pv L ov S) (hown : w'.ownsRow n 3 1 v1 (S.length + 1) (nvL S ++ [.int .i64 a])) (hg : (w.alloc o).grownBy w' ov.ownBlock) : RlAt w0 (w'.setCell ⟨op, 0, none⟩ v1) n op pp lp np pv L v1 (S ++ [a]) := by
  obtain ⟨n1, n2, n3, n4, n5⟩ := h.ne
  obtain ⟨h1, h2, h3, h4⟩ := h.hi
  have hlow : ∀ k, k < n → ov.ownBlock ≠ some k := fun k hk e => by have := (h.own.lt k e).1; omega
  have hk : ∀ k, k < w.heap.size → k < n → w'.heap[k]? = w.heap[k]? := fun k q1 q2 => (hg.block k (by simp; omega) (fun e => hlow k q2 e.symm)).trans (Below.heap_alloc _ _ _ q1)
  have hs := hk op (box_lt h.oc) h1
  have hv1 : ∀ k, v1.ownBlock = some k → n ≤ k := fun k q => (hown.lt k q).1
  have hsz := h.below.size
  refine ⟨?_, (Below.heap_setCell _ _ _ _ (fun e => n1 e.symm)).trans ((hk pp (box_lt h.pc) h2).trans h.pc), ?_, setCellOf (hs.trans h.oc) v1, (Below.heap_setCell _ _ _ _ (fun e => n3 e.symm)).trans ((hk np (box_lt h.nc) h4).trans h.nc), ?_, h.lo, h.hi, h.ne, by have := h.sz; have := hg.size; simp at this; simp [World.setCell]; omega⟩
  · exact Below.setCell (Below.grown (h.below.alloc hsz o) hg (by simp; omega) (fun k q => by have := (h.own.lt k q).1; have := h.lo.2.2; omega)) h.lo.1 v1
  · have hlf := h.lf
    obtain ⟨C, c1, _⟩ := hlf
    exact h.lf.of ((Below.heap_setCell _ _ _ _ (fun e => n2 e.symm)).trans (hk lp (box_lt c1) h3))
  · rw [List.length_append, List.length_singleton, nvL_snoc]
    exact ownsRow_same7 hown fun k q => Below.heap_setCell _ _ _ _ (by have := hv1 k q; show k ≠ op; omega)
theorem RlAt.pop {A : Option Addr} {cap : Nat} (h : RlAt w0 w n op pp lp np pv L (.slice A (S.length + 1) cap) (S ++ [a])) : RlAt w0 (w.setCell ⟨op, 0, none⟩ (.slice A S.length cap)) n op pp lp np pv L (.slice A S.length cap) S := by
  obtain ⟨n1, n2, n3, n4, n5⟩ := h.ne
  have hc := h.own
  rw [List.length_append, List.length_singleton] at hc
  have hc := own_cut hc (r := S.length) (by omega)
  rw [nvL_take] at hc
  exact ⟨Below.setCell h.below h.lo.1 _, (Below.heap_setCell _ _ _ _ (fun e => n1 e.symm)).trans h.pc, h.lf.of (Below.heap_setCell _ _ _ _ (fun e => n2 e.symm)), setCellOf h.oc _, (Below.heap_setCell _ _ _ _ (fun e => n3 e.symm)).trans h.nc, ownsRow_same7 hc fun k q => Below.heap_setCell _ _ _ _ (by have := (hc.lt k q).1; have := h.hi.1; show k ≠ op; omega), h.lo, h.hi, h.ne, by simpa [World.setCell] using h.sz⟩
theorem RlAt.form (h : RlAt w0 w n op pp lp np pv L ov (S ++ [a])) : ∃ A cap, ov = .slice A (S.length + 1) cap ∧ (S.length : Int) + 1 ≤ (cap : Int) := by
  have h1 := h.own
  rw [List.length_append, List.length_singleton] at h1
  rcases h1.2 with ⟨h2, h3⟩ | ⟨g, cap, cur, h2, _, _, h3, _⟩
  · omega
  · exact ⟨_, cap, h2, by omega⟩
end
/-- What the search leaves. -/
def NxP (w0 : World) (n op pp lp np : Nat) (pv : Value) (L : Nat → Int) (S : List Nat) (res : Option (List Nat)) (e : Ending) (w' : World) : Prop :=
  match res with
  | some R => ∃ (ov : Value) (L' : Nat → Int), e = .returned (.bool true) ∧ RlAt w0 w' n op pp lp np pv L' ov (S ++ R)
  | none => ∃ ov : Value, e = .returned (.bool false) ∧ RlAt w0 w' n op pp lp np pv L ov S
end Go.Proofs.YtehadoecnmfeoaaGreat

/- Part 19 of this claim's texts: walks and plain laws. -/
import Derived.Test.YtehadoecnmfeoaaGreatRows
import Derived.Test.YtehadoecnmfeoaaGreatGBS17
import Derived.Test.YtehadoecnmfeoaaGreatGBS18
import Derived.Laws.EntriesVeiled
import Derived.Deep.RegionHeld3
import Derived.Deep.DrawnRows
import Derived.Deep.DeepMust
import Derived.Test.YtehadoecnmfeoaaGreatGBS3
set_option linter.unusedVariables false
set_option linter.unusedSimpArgs false
set_option linter.unusedSectionVars false
namespace Go.Proofs.YtehadoecnmfeoaaGreat
def updL (L : Nat → Int) (r : Nat) (x : Int) : Nat → Int := fun i => if i = r then x else L i
def rlS (most : Nat) : List Int → (Nat → Int) → Nat → Option (List Nat)
 | [], _, _ => some []
 | p :: ps, L, o => (List.range most).findSome? fun r => if r ≤ o ∧ p ≤ L r then (rlS most ps (updL L r (L r - p)) (max o (r + 1))).map (fun l => r :: l) else none
def rlT (most : Nat) (p : Int) (ps : List Int) (L : Nat → Int) (o r : Nat) : Option (List Nat) := if r ≤ o ∧ p ≤ L r then (rlS most ps (updL L r (L r - p)) (max o (r + 1))).map (fun l => r :: l) else none
theorem rlS_cons (most : Nat) (p : Int) (ps : List Int) (L : Nat → Int) (o : Nat) : rlS most (p :: ps) L o = (List.range most).findSome? (rlT most p ps L o) := rfl
theorem findSome_range {α : Type} (f : Nat → Option α) (n : Nat) : (List.range (n + 1)).findSome? f = match (List.range n).findSome? f with | some x => some x | none => f n := by
 rw [List.range_succ, List.findSome?_append]
 cases (List.range n).findSome? f with
 | some x => rfl
 | none =>
  simp only [List.findSome?_cons, List.findSome?_nil]
  cases f n <;> rfl
theorem findSome_none {α : Type} {f : Nat → Option α} {n : Nat} (h : ∀ r, r < n → f r = none) : (List.range n).findSome? f = none := by
 rw [List.findSome?_eq_none_iff]
 intro x hx
 exact h x (by simpa using hx)
theorem findSome_first {α : Type} {f : Nat → Option α} {n k : Nat} {x : α} (h : ∀ r, r < k → f r = none) (hk : f k = some x) (hn : k < n) : (List.range n).findSome? f = some x := by
 induction n with
 | zero => omega
 | succ n ih =>
  rw [findSome_range]
  rcases Nat.lt_or_ge k n with h1 | h1
  ·
   rw [ih h1]
  ·
   have he : k = n := by omega
   subst he
   rw [findSome_none h, hk]
theorem rlS_enough {most : Nat} : ∀ (ps : List Int) {L : Nat → Int} {o : Nat}, ps.length + o ≤ most → (∀ r, o ≤ r → r < most → ∀ p ∈ ps, p ≤ L r) → (rlS most ps L o).isSome = true
 | [], _, _, _, _ => rfl
 | p :: ps, L, o, hl, h => by
  rw [rlS_cons]
  simp only [List.length_cons] at hl
  have h1 := rlS_enough (most := most) ps (L := updL L o (L o - p)) (o := max o (o + 1)) (by omega) (fun r hr hm q hq => by
   unfold updL
   rw [if_neg (by omega)]
   exact h r (by omega) hm q (by simp [hq]))
  have h2 : (rlT most p ps L o o).isSome = true := by
   unfold rlT
   rw [if_pos ⟨Nat.le_refl _, h o (Nat.le_refl _) (by omega) p (by simp)⟩]
   simpa using h1
  rw [List.findSome?_isSome_iff]
  exact ⟨o, by simp; omega, h2⟩
def relL (ps : List Int) (len : Int) : List Nat := ((List.range (ps.length + 1)).findSome? fun most => rlS most ps (fun _ => len) 0).getD []
def relB (ps : List Int) (len : Int) : Bool := btw len 1 1000000 && decide (ps.length ≤ 12) && ps.all fun p => btw p 1 len
def relE (ps : List Int) (len : Int) : Int := if relB ps len = true then 0 else 121
theorem rel_some {ps : List Int} {len : Int} (h : relB ps len = true) : (rlS ps.length ps (fun _ => len) 0).isSome = true := by
 unfold relB at h
 simp only [Bool.and_eq_true] at h
 exact rlS_enough ps (by omega) fun r _ _ p hp => by
  have := List.all_eq_true.1 h.2 p hp
  rw [btw_iff] at this
  exact this.2
theorem rel_at {ps : List Int} {len : Int} {k : Nat} {l : List Nat} (h : ∀ r, r < k → rlS r ps (fun _ => len) 0 = none) (hk : rlS k ps (fun _ => len) 0 = some l) (hn : k ≤ ps.length) : relL ps len = l := by
 unfold relL
 rw [findSome_first (f := fun most => rlS most ps (fun _ => len) 0) h hk (by omega)]
 rfl
end Go.Proofs.YtehadoecnmfeoaaGreat
namespace Go.Proofs.YtehadoecnmfeoaaGreat
open Go.RowKit
theorem ownsRow_same7 {w w' : World} {base e size n : Nat} {v : Value} {xs : List Value} (h : w.ownsRow base e size v n xs) (hs : ∀ b, v.ownBlock = some b → w'.heap[b]? = w.heap[b]?) : w'.ownsRow base e size v n xs := by
 obtain ⟨h1, h2 | ⟨g, cap, cur, rfl, h4, h5, h6⟩⟩ := h
 ·
  exact ⟨h1, .inl h2⟩
 ·
  exact ⟨h1, .inr ⟨g, cap, cur, rfl, h4, (hs g rfl).trans h5, h6⟩⟩
theorem Ints.at7 {w : World} {B : Nat} {A : Option Addr} {m q : Nat} {S : List Int} (h : Ints w B (.slice A m q) S) {k : Nat} (hk : k < S.length) : ∃ b off x, Hid (S.getD k 0 = x) ∧ A = some ⟨b, off, none⟩ ∧ b < B ∧ S.length ≤ q ∧ w.cell? ⟨b, off + k, none⟩ = some (.int .i64 x) := by
 obtain ⟨h1, h2, b, off, h3, h4, h5⟩ := sl_at h hk
 have h6 := h5 0 (by omega)
 rw [Nat.mul_one, Nat.add_zero] at h6
 exact ⟨b, off, _, rfl, h3, h4, by omega, h6⟩
theorem getD_mem7 {α : Type} {l : List α} {z : α} {k : Nat} (h : k < l.length) : l.getD k z ∈ l := by
 rw [List.getD_eq_getElem?_getD, List.getElem?_eq_getElem h]
 exact List.getElem_mem h
def nvL (S : List Nat) : List Value := S.map fun (n : Nat) => Value.int .i64 n
theorem nvL_snoc (S : List Nat) (k : Nat) : nvL (S ++ [k]) = nvL S ++ [.int .i64 k] := by simp [nvL]
section
variable {w : World}
theorem own_cut {e B : Nat} {A : Option Addr} {m cap : Nat} {xs : List Value} (h : w.ownsRow B e 1 (.slice A m cap) m xs) {r : Nat} (hr : r ≤ m) : w.ownsRow B e 1 (.slice A r cap) r (xs.take r) := by
 obtain ⟨h1, ⟨h2, h3⟩ | ⟨g, cap', cur, h2, h3, h4, h5, h6, h7, h8⟩⟩ := h
 ·
  injection h2 with e1 e2 e3
  subst e1 e3
  obtain rfl : r = 0 := by omega
  exact ⟨by simp, .inl ⟨rfl, rfl⟩⟩
 ·
  injection h2 with e1 e2 e3
  subst e1 e3
  refine ⟨by simp; omega, .inr ⟨g, cap, cur, rfl, h3, h4, by omega, h6, h7, ?_⟩⟩
  rw [← h8, List.take_take, Nat.mul_one, Nat.mul_one, Nat.min_eq_left hr]
theorem nvL_take (S : List Nat) (a : Nat) : (nvL (S ++ [a])).take S.length = nvL S := by
 rw [nvL_snoc, List.take_append_of_le_length (by simp [nvL])]
 rw [List.take_of_length_le (by simp [nvL])]
end
def LefAt (w : World) (b t : Nat) (L : Nat → Int) : Prop := ∃ C : Array Value, w.heap[b]? = some (.cells C t (0, 0)) ∧ C.size = 12 ∧ ∀ i, i < 12 → C[i]? = some (.int .i64 (L i))
theorem LefAt.cell {w : World} {b t : Nat} {L : Nat → Int} (h : LefAt w b t L) {i : Nat} (hi : i < 12) : w.cell? ⟨b, i, none⟩ = some (.int .i64 (L i)) ∧ w.frozen? ⟨b, i, none⟩ = false ∧ b < w.heap.size := by
 obtain ⟨C, h1, _, h3⟩ := h
 exact ⟨(cellOf h1 i).trans (h3 i hi), unfrozenOf h1 i, box_lt h1⟩
theorem LefAt.of {w w' : World} {b t : Nat} {L : Nat → Int} (h : LefAt w b t L) (hb : w'.heap[b]? = w.heap[b]?) : LefAt w' b t L := by
 obtain ⟨C, h1, h2, h3⟩ := h
 exact ⟨C, hb.trans h1, h2, h3⟩
theorem LefAt.set {w : World} {b t : Nat} {L : Nat → Int} (h : LefAt w b t L) {r : Nat} (hr : r < 12) (x : Int) : LefAt (w.setCell ⟨b, r, none⟩ (.int .i64 x)) b t (updL L r x) := by
 obtain ⟨C, h1, h2, h3⟩ := h
 refine ⟨C.setIfInBounds r (.int .i64 x), setCellOf h1 _, by simpa using h2, fun i hi => ?_⟩
 rw [Array.getElem?_setIfInBounds]
 unfold updL
 by_cases e : r = i
 ·
  subst e
  rw [if_pos rfl, if_pos rfl, if_pos (by omega)]
 ·
  rw [if_neg e, if_neg (fun q => e q.symm)]
  exact h3 i hi
theorem LefAt.same {w : World} {b t : Nat} {L L' : Nat → Int} (h : LefAt w b t L) (hL : ∀ i, L i = L' i) : LefAt w b t L' := by
 obtain ⟨C, h1, h2, h3⟩ := h
 exact ⟨C, h1, h2, fun i hi => by rw [← hL i]; exact h3 i hi⟩
theorem updL_back (L : Nat → Int) (r : Nat) (x : Int) : ∀ i, updL (updL L r x) r (L r) i = L i := by
 intro i
 unfold updL
 by_cases e : i = r
 ·
  subst e; simp
 ·
  rw [if_neg e, if_neg e]
structure RlAt (w0 w : World) (n op pp lp np : Nat) (pv : Value) (L : Nat → Int) (ov : Value) (S : List Nat) : Prop where
 below : Below w0.heap.size w0 w
 pc : w.heap[pp]? = some (.cells #[pv] 45 (0, 0))
 lf : LefAt w lp 160 L
 oc : w.heap[op]? = some (.cells #[ov] 45 (0, 0))
 nc : w.heap[np]? = some (.cells #[.func (.func 118) #[] #[.pointer (some ⟨op, 0, none⟩), .pointer (some ⟨pp, 0, none⟩), .pointer (some ⟨lp, 0, none⟩), .pointer (some ⟨np, 0, none⟩)]] 161 (0, 0))
 own : w.ownsRow n 3 1 ov S.length (nvL S)
 lo : w0.heap.size ≤ op ∧ w0.heap.size ≤ lp ∧ w0.heap.size ≤ n
 hi : op < n ∧ pp < n ∧ lp < n ∧ np < n
 ne : op ≠ pp ∧ op ≠ lp ∧ op ≠ np ∧ lp ≠ pp ∧ lp ≠ np
 sz : n ≤ w.heap.size
section
variable {w0 w w' : World} {n op pp lp np : Nat} {pv ov v1 : Value} {L : Nat → Int} {S : List Nat} {o : Obj} {a : Nat}
theorem RlAt.setL (h : RlAt w0 w n op pp lp np pv L ov S) {r : Nat} (hr : r < 12) (x : Int) : RlAt w0 (w.setCell ⟨lp, r, none⟩ (.int .i64 x)) n op pp lp np pv (updL L r x) ov S := by
 obtain ⟨n1, n2, n3, n4, n5⟩ := h.ne
 exact ⟨Below.setCell h.below h.lo.2.1 _, (Below.heap_setCell _ _ _ _ (fun e => n4 e.symm)).trans h.pc, h.lf.set hr x, (Below.heap_setCell _ _ _ _ n2).trans h.oc, (Below.heap_setCell _ _ _ _ (fun e => n5 e.symm)).trans h.nc, ownsRow_same7 h.own fun k hk => Below.heap_setCell _ _ _ _ (by have := (h.own.lt k hk).1; have := h.hi.2.2.1; show k ≠ lp; omega), h.lo, h.hi, h.ne, by simpa [World.setCell] using h.sz⟩
theorem RlAt.drew (h : RlAt w0 w n op pp lp np pv L ov S) : RlAt w0 w.drew n op pp lp np pv L ov S := ⟨Below.drew h.below, h.pc, h.lf, h.oc, h.nc, h.own, h.lo, h.hi, h.ne, h.sz⟩
theorem RlAt.same {L' : Nat → Int} (h : RlAt w0 w n op pp lp np pv L ov S) (hL : ∀ i, L i = L' i) : RlAt w0 w n op pp lp np pv L' ov S := ⟨h.below, h.pc, h.lf.same hL, h.oc, h.nc, h.own, h.lo, h.hi, h.ne, h.sz⟩
theorem RlAt.sno (h : RlAt w0 w n op pp lp np pv L ov S) (hown : w'.ownsRow n 3 1 v1 (S.length + 1) (nvL S ++ [.int .i64 a])) (hg : (w.alloc o).grownBy w' ov.ownBlock) : RlAt w0 (w'.setCell ⟨op, 0, none⟩ v1) n op pp lp np pv L v1 (S ++ [a]) := by
 obtain ⟨n1, n2, n3, n4, n5⟩ := h.ne
 obtain ⟨h1, h2, h3, h4⟩ := h.hi
 have hlow : ∀ k, k < n → ov.ownBlock ≠ some k := fun k hk e => by have := (h.own.lt k e).1; omega
 have hk : ∀ k, k < w.heap.size → k < n → w'.heap[k]? = w.heap[k]? := fun k q1 q2 => (hg.block k (by simp; omega) (fun e => hlow k q2 e.symm)).trans (Below.heap_alloc _ _ _ q1)
 have hs := hk op (box_lt h.oc) h1
 have hv1 : ∀ k, v1.ownBlock = some k → n ≤ k := fun k q => (hown.lt k q).1
 have hsz := h.below.size
 refine ⟨?_, (Below.heap_setCell _ _ _ _ (fun e => n1 e.symm)).trans ((hk pp (box_lt h.pc) h2).trans h.pc), ?_, setCellOf (hs.trans h.oc) v1, (Below.heap_setCell _ _ _ _ (fun e => n3 e.symm)).trans ((hk np (box_lt h.nc) h4).trans h.nc), ?_, h.lo, h.hi, h.ne, by have := h.sz; have := hg.size; simp at this; simp [World.setCell]; omega⟩
 ·
  exact Below.setCell (Below.grown (h.below.alloc hsz o) hg (by simp; omega) (fun k q => by have := (h.own.lt k q).1; have := h.lo.2.2; omega)) h.lo.1 v1
 ·
  have hlf := h.lf
  obtain ⟨C, c1, _⟩ := hlf
  exact h.lf.of ((Below.heap_setCell _ _ _ _ (fun e => n2 e.symm)).trans (hk lp (box_lt c1) h3))
 ·
  rw [List.length_append, List.length_singleton, nvL_snoc]
  exact ownsRow_same7 hown fun k q => Below.heap_setCell _ _ _ _ (by have := hv1 k q; show k ≠ op; omega)
theorem RlAt.pop {A : Option Addr} {cap : Nat} (h : RlAt w0 w n op pp lp np pv L (.slice A (S.length + 1) cap) (S ++ [a])) : RlAt w0 (w.setCell ⟨op, 0, none⟩ (.slice A S.length cap)) n op pp lp np pv L (.slice A S.length cap) S := by
 obtain ⟨n1, n2, n3, n4, n5⟩ := h.ne
 have hc := h.own
 rw [List.length_append, List.length_singleton] at hc
 have hc := own_cut hc (r := S.length) (by omega)
 rw [nvL_take] at hc
 exact ⟨Below.setCell h.below h.lo.1 _, (Below.heap_setCell _ _ _ _ (fun e => n1 e.symm)).trans h.pc, h.lf.of (Below.heap_setCell _ _ _ _ (fun e => n2 e.symm)), setCellOf h.oc _, (Below.heap_setCell _ _ _ _ (fun e => n3 e.symm)).trans h.nc, ownsRow_same7 hc fun k q => Below.heap_setCell _ _ _ _ (by have := (hc.lt k q).1; have := h.hi.1; show k ≠ op; omega), h.lo, h.hi, h.ne, by simpa [World.setCell] using h.sz⟩
theorem RlAt.form (h : RlAt w0 w n op pp lp np pv L ov (S ++ [a])) : ∃ A cap, ov = .slice A (S.length + 1) cap ∧ (S.length : Int) + 1 ≤ (cap : Int) := by
 have h1 := h.own
 rw [List.length_append, List.length_singleton] at h1
 rcases h1.2 with ⟨h2, h3⟩ | ⟨g, cap, cur, h2, _, _, h3, _⟩
 ·
  omega
 ·
  exact ⟨_, cap, h2, by omega⟩
end
def NxP (w0 : World) (n op pp lp np : Nat) (pv : Value) (L : Nat → Int) (S : List Nat) (res : Option (List Nat)) (e : Ending) (w' : World) : Prop :=
 match res with
 | some R => ∃ (ov : Value) (L' : Nat → Int), e = .returned (.bool true) ∧ RlAt w0 w' n op pp lp np pv L' ov (S ++ R)
 | none => ∃ ov : Value, e = .returned (.bool false) ∧ RlAt w0 w' n op pp lp np pv L ov S
theorem drop_cons6 {ps : List Int} {i : Nat} (hi : i < ps.length) : ps.drop i = ps.getD i 0 :: ps.drop (i + 1) := by
 rw [List.drop_eq_getElem_cons hi, List.getD_eq_getElem?_getD, List.getElem?_eq_getElem hi]
 rfl
set_option maxRecDepth 100000 in
set_option maxHeartbeats 4000000 in
theorem next_any (ps : List Int) (len : Int) (hps : ps.length ≤ 12) (hp : ∀ p ∈ ps, 1 ≤ p ∧ p ≤ len) (hlen : len ≤ 1000000) (A : Option Addr) (q : Nat) (w0 : World) (HI : Ints w0 w0.heap.size (.slice A ps.length q) ps) (n op pp lp np : Nat) (most : Nat) (hmost : most ≤ 12) :
  ∀ (m : Nat) (S : List Nat) (L : Nat → Int) (o : Nat) (ov : Value) (w : World), RlAt w0 w n op pp lp np (.slice A ps.length q) L ov S → S.length + m = ps.length → o ≤ 12 → (∀ i, 0 ≤ L i ∧ L i ≤ len) →
  Calls Tryz.prog 118 #[.int .i64 o, .int .i64 most, .pointer (some ⟨op, 0, none⟩), .pointer (some ⟨pp, 0, none⟩), .pointer (some ⟨lp, 0, none⟩), .pointer (some ⟨np, 0, none⟩)] w (NxP w0 n op pp lp np (.slice A ps.length q) L S (rlS most (ps.drop S.length) L o)) := by
 obtain ⟨i0, hi0, iz0, iz1, iz2⟩ := info_parts infoInt
 have HII := hide HI
 have HP := hide hp
 clear HI hp
 intro m
 induction m with
 | zero =>
  intro S L o ov w h hm ho hL
  have hd : ps.drop S.length = [] := List.drop_eq_nil_of_le (by omega)
  rw [hd]
  obtain ⟨As, caps, rfl⟩ := owns_form h.own
  have W := hide h
  have x0 := cellOf h.oc 0
  have lx := box_lt h.oc
  have y0 := cellOf h.pc 0
  have ly := box_lt h.pc
  have hs1 : ((S.length : Int) == (ps.length : Int)) = true := by simp; omega
  clear h hd hm
  go_enter Tryz.func118, Tryz.ntmps118
  go_wp2_with fail
  go_ret
  exact ⟨_, L, rfl, by rw [List.append_nil]; exact W.out⟩
 | succ m ih =>
  intro S L o ov w h hm ho hL
  have hil : S.length < ps.length := by omega
  obtain ⟨p, hpe⟩ : ∃ p, ps.getD S.length 0 = p := ⟨_, rfl⟩
  have hpr : 1 ≤ p ∧ p ≤ len := HP.out p (by rw [← hpe]; exact getD_mem7 hil)
  obtain ⟨qs, hqs⟩ : ∃ qs, ps.drop (S.length + 1) = qs := ⟨_, rfl⟩
  have hd : ps.drop S.length = p :: qs := by rw [drop_cons6 hil, hpe, hqs]
  rw [hd]
  obtain ⟨res, hres⟩ : ∃ res, rlS most (p :: qs) L o = res := ⟨_, rfl⟩
  rw [hres]
  have HRES := hide hres
  obtain ⟨As, caps, rfl⟩ := owns_form h.own
  have W := hide h
  have x0 := cellOf h.oc 0
  have lx := box_lt h.oc
  have y0 := cellOf h.pc 0
  have ly := box_lt h.pc
  have hs1 : ((S.length : Int) == (ps.length : Int)) = false := by simp; omega
  have HQ := hide hqs
  have HPE := hide hpe
  have HL := hide hL
  have HIH := hide ih
  have hSl : S.length ≤ 12 := by omega
  have hm2 : S.length + 1 + m = ps.length := by omega
  obtain ⟨pr1, pr2⟩ := hpr
  clear h hd hm hres hqs hpe hL ih
  go_enter Tryz.func118, Tryz.ntmps118
  go_wp2_with fail
  clear x0 lx y0 ly
  go_loopw [10] (fun i wr => ∃ (r : Nat) (ov : Value), i = .int .i64 r ∧ r ≤ 13 ∧ Hid (∀ j, j < r → j < most → rlT most p qs L o j = none) ∧ Hid (RlAt w0 wr n op pp lp np (.slice A ps.length q) L ov S)) (fun i _ => 13 - (intOf i).toNat)
  case atStart => exact ⟨0, _, rfl, by omega, fun j hj => absurd hj (by omega), W.out⟩
  case round =>
   clear W
   obtain ⟨r, ov2, rfl, hr13, HNO, R⟩ := hrel
   obtain ⟨A2, cap2, hv2⟩ := owns_form R.out.own
   subst hv2
   by_cases hro : r ≤ o
   case neg =>
    have hro1 : decide ((r : Int) ≤ (o : Int)) = false := decide_eq_false (by omega)
    have hne : res = none := by
     rw [← HRES.out, rlS_cons]
     refine findSome_none fun j hj => ?_
     rcases Nat.lt_or_ge j r with h1 | h1
     ·
      exact HNO.out j h1 hj
     ·
      unfold rlT; rw [if_neg (by omega)]
    subst hne
    have hro2 : ¬ (r : Int) ≤ (o : Int) := by omega
    go_wp2_with fail
    go_ret
    exact ⟨_, rfl, R.out⟩
   case pos =>
   have hro1 : (r : Int) ≤ (o : Int) := by omega
   by_cases hrm : r < most
   case neg =>
    have hrm1 : ¬ (r : Int) < (most : Int) := by omega
    have hne : res = none := by
     rw [← HRES.out, rlS_cons]
     exact findSome_none fun j hj => HNO.out j (by omega) hj
    subst hne
    go_wp2_with fail
    go_ret
    exact ⟨_, rfl, R.out⟩
   case pos =>
   have hrm1 : (r : Int) < (most : Int) := by omega
   have hr12 : r < 12 := by omega
   have ir : (r : Int) < 12 := by omega
   have ir0 : (0 : Int) ≤ (r : Int) := by omega
   obtain ⟨a, ha⟩ : ∃ a, L r = a := ⟨_, rfl⟩
   have hLr := HL.out r
   rw [ha] at hLr
   obtain ⟨a0, a1⟩ := hLr
   obtain ⟨c1, c2, c3⟩ := R.out.lf.cell hr12
   rw [ha] at c1
   have y0 := cellOf R.out.pc 0
   have ly := box_lt R.out.pc
   obtain ⟨bp, offp, x, HX, hA, hbp, hq, ep⟩ := (HII.out.below R.out.below).at7 hil
   have hxp : x = p := by rw [← HX.out, HPE.out]
   subst hxp hA
   have hlp : ¬ bp = lp := by have := R.out.lo.2.1; omega
   have hpl : ¬ pp = lp := fun e => R.out.ne.2.2.2.1 e.symm
   have lbp : bp < wr.heap.size := Nat.lt_of_lt_of_le hbp R.out.below.size
   have is0 : (0 : Int) ≤ (S.length : Int) := by omega
   have is1 : (S.length : Int) < (ps.length : Int) := by omega
   have iq : (ps.length : Int) ≤ (q : Int) := by omega
   have HAE := hide ha
   clear ha hbp hq
   go_upto_region 7 with (fail)
   by_cases hax : a < x
   ·
    have hT : rlT most x qs L o r = none := by unfold rlT; rw [HAE.out, if_neg (by omega)]
    have HT := hide hT
    have g1 : decide (a < x) = true := decide_eq_true hax
    clear hT
    refine wp_region_held_drew (S := (fun w' => Below wr.heap.size wr w')) (by kernel_rfl) ?_ (fun hHeld => ?_)
    ·
     try dsimp only
     exact zP
    refine zT 0 rfl ?_
    refine zT 1 rfl ?_
    refine zT 2 rfl ?_
    refine zT 3 rfl ?_
    refine zT 4 rfl ?_
    refine zT 5 rfl ?_
    refine zT 6 rfl ?_
    refine zT 7 rfl ?_
    refine wpAnyH_done (by kernel_rfl) ?_ _
    clear hHeld c1 c2 c3 y0 ly ep lbp hlp hpl
    go_wp2_with fail
    go_roundw
    case rel => exact ⟨r + 1, _, by go_num, by omega, fun j hj hj2 => by
      rcases Nat.lt_or_ge j r with h1 | h1
      ·
       exact HNO.out j h1 hj2
      ·
       rw [show j = r by omega]; exact HT.out, R.out.drew⟩
    case measure => simp [intOf]; omega
   ·
    have g1 : decide (a < x) = false := decide_eq_false hax
    have hT : rlT most x qs L o r = (rlS most qs (updL L r (a - x)) (max o (r + 1))).map (fun l => r :: l) := by unfold rlT; rw [HAE.out, if_pos ⟨hro, by omega⟩]
    have HT := hide hT
    have wr1 : IntKind.i64.wrap (a - x) = a - x := IntWalk.i64_in _ (by omega)
    clear hT
    refine wp_region_held_drew (S := (fun w' => Below wr.heap.size wr w')) (by kernel_rfl) ?_ (fun hHeld => ?_)
    ·
     try dsimp only
     exact zP
    refine zT 0 rfl ?_
    refine zT 1 rfl ?_
    refine zT 2 rfl ?_
    refine zT 3 rfl ?_
    refine zT 4 rfl ?_
    refine zT 5 rfl ?_
    refine zT 6 rfl ?_
    refine zT 7 rfl ?_
    refine wpAnyH_done (by kernel_rfl) ?_ _
    clear hHeld
    have R2 := hide R.out.drew
    generalize hwq : World.drew _ = wq at R2 ⊢
    clear hwq c1 c2 c3 y0 ly lbp ep
    obtain ⟨c1, c2, c3⟩ := R2.out.lf.cell hr12
    rw [HAE.out] at c1
    have y0 := cellOf R2.out.pc 0
    have ly := box_lt R2.out.pc
    obtain ⟨bp2, offp2, x2, HX2, hA2, hbp, hq, ep⟩ := (HII.out.below R2.out.below).at7 hil
    have hxp2 : x2 = x := by rw [← HX2.out, HPE.out]
    subst hxp2
    injection hA2 with hA2
    injection hA2 with e1 e2
    subst e1 e2
    have lbp : bp < wq.heap.size := Nat.lt_of_lt_of_le hbp R2.out.below.size
    clear hbp hq
    go_upto_region 8 with (fail)
    refine wp_region_held_drew (S := (fun w' => Keeps (fun j => j = lp ∨ j = lp) wq w')) (by kernel_rfl) ?_ (fun hHeld => ?_)
    ·
     try dsimp only
     exact zQ
    refine zU 0 rfl ?_
    refine zU 1 rfl ?_
    refine zU 3 rfl ?_
    refine zU 4 rfl ?_
    refine zU 5 rfl ?_
    refine zU 6 rfl ?_
    refine wpAnyH_ready (rs := [2]) (by kernel_rfl) (by simp) ?_
    refine (AllReadyH.cons rfl (fun K hK => ?_) AllReadyH.nil)
    go_simp
    refine hK.out _ _ zQ fun hNext => ?_; clear hK K hHeld; have hHeld := hNext; clear hNext; (try dsimp only at hHeld); try simp only [zX]
    refine zU 7 rfl ?_
    refine zU 8 rfl ?_
    refine wpAnyH_ready (rs := [9]) (by kernel_rfl) (by simp) ?_
    refine (AllReadyH.cons rfl (fun K hK => ?_) AllReadyH.nil)
    go_simp
    refine hK.out _ _ zQ fun hNext => ?_; clear hK K hHeld; have hHeld := hNext; clear hNext; (try dsimp only at hHeld); try simp only [zX]
    refine wpAnyH_done (by kernel_rfl) ?_ _
    have R3 := hide (R2.out.setL hr12 (a - x2)).drew
    generalize hwz : World.drew (World.setCell _ _ _) = wz at R3 ⊢
    clear hwz hHeld c1 c2 c3 y0 ly lbp ep
    have z0 := cellOf R3.out.oc 0
    have z1 := unfrozenOf R3.out.oc 0
    have lz := box_lt R3.out.oc
    go_upto_region 10 with (at_builtin; go_must (refine wpList_append_own_at _ rfl (.tmp 44) (.tmp 46) _ rfl n 3 i0 _ 1 8 Tryz.underlying45 hi0 iz0 iz1 iz2 rfl (by omega) _ _ _ rfl (World.ownsRow.alloc R3.out.own _) ⟨wz.heap.size, 0, none⟩ 1 1 [.int .i64 (r : Nat)] rfl rfl (World.news_of_block (heap_alloc_new wz _)) (by simp [Value.oneCell']) (by unfold maxLen; omega) (by omega) (by have := R3.out.sz; simp; omega) ?_); intro v1 w4 hown1 hg1 _ hat1; have hw4 := R3.out.sno hown1 hg1; obtain ⟨A4, cap4, hv4⟩ := owns_form hown1; subst hv4; have hob := ((hg1.block op (by have := box_lt R3.out.oc; simp; omega) (fun e => by have := (R3.out.own.lt _ e.symm).1; have := R3.out.hi.1; omega)).trans (Below.heap_alloc _ _ _ (box_lt R3.out.oc))).trans R3.out.oc; have u0 := cellOf hob 0; have u1 := unfrozenOf hob 0; have lu := box_lt hob; have HW4 := hide hw4; clear hw4 hob hown1 hg1 hat1 z0 z1 lz)
    generalize hw5 : World.setCell _ _ _ = w5 at HW4 ⊢
    clear hw5 u0 u1 lu
    have n0 := cellOf HW4.out.nc 0
    have ln := box_lt HW4.out.nc
    have hcl := HIH.out (S ++ [r]) (updL L r (a - x2)) (max o (r + 1)) _ w5 HW4.out (by simp; omega) (by omega) (fun i => by
     unfold updL
     have := HL.out i
     split
     ·
      omega
     ·
      exact this)
    rw [List.length_append, List.length_singleton, HQ.out] at hcl
    obtain ⟨rc, hrc⟩ : ∃ rc, rlS most qs (updL L r (a - x2)) (max o (r + 1)) = rc := ⟨_, rfl⟩
    rw [hrc] at hcl
    have HRC := hide hrc
    have hmx : max o (r + 1) = if o ≤ r then r + 1 else o := by split <;> omega
    rw [hmx] at hcl
    clear hrc hmx
    by_cases hor : o ≤ r
    ·
     rw [if_pos hor, show ((r + 1 : Nat) : Int) = (r : Int) + 1 from rfl] at hcl
     have HCL := hide hcl
     have hmx1 : (o : Int) < (r : Int) + 1 := by omega
     clear hcl
     cases rc with
     | some R' =>
      have hrs : res = some (r :: R') := by
       rw [← HRES.out, rlS_cons]
       exact findSome_first (k := r) (fun j hj => HNO.out j hj (by omega)) (by rw [HT.out, HRC.out]; rfl) hrm
      subst hrs
      go_wp2_with (go_at_call 118; refine HCL.out.mono ?_; rintro e w6 ⟨ov6, L6, rfl, hW6⟩; have HW6 := hide hW6; clear hW6 n0 ln)
      go_ret
      exact ⟨ov6, L6, rfl, by have h6 := HW6.out; rw [List.append_assoc] at h6; exact h6⟩
     | none =>
      go_upto_region 13 with (go_at_call 118; refine HCL.out.mono ?_; rintro e w6 ⟨ov6, rfl, hW6⟩; obtain ⟨A6, cap6, hv6, hcap6⟩ := hW6.form; subst hv6; have p0 := cellOf hW6.oc 0; have p1 := unfrozenOf hW6.oc 0; have lp6 := box_lt hW6.oc; have HW6 := hide hW6; clear hW6 n0 ln)
      have HW7 := hide HW6.out.pop
      generalize hw7 : World.setCell _ _ _ = w7 at HW7 ⊢
      clear hw7 p0 p1 lp6 hcap6
      obtain ⟨c1, c2, c3⟩ := HW7.out.lf.cell hr12
      have hc1 : updL L r (a - x2) r = a - x2 := by unfold updL; rw [if_pos rfl]
      rw [hc1] at c1
      have y0 := cellOf HW7.out.pc 0
      have ly := box_lt HW7.out.pc
      obtain ⟨bp3, offp3, x3, HX3, hA3, hbp, hq, ep⟩ := (HII.out.below HW7.out.below).at7 hil
      have hxp3 : x3 = x2 := by rw [← HX3.out, HPE.out]
      subst hxp3
      injection hA3 with hA3
      injection hA3 with e1 e2
      subst e1 e2
      have lbp : bp < w7.heap.size := Nat.lt_of_lt_of_le hbp HW7.out.below.size
      have wr2 : IntKind.i64.wrap (a - x3 + x3) = a := by rw [Int.sub_add_cancel]; exact IntWalk.i64_in _ (by omega)
      clear hbp hq hc1
      refine wp_region_held_drew (S := (fun w' => Keeps (fun j => j = lp ∨ j = lp) w7 w')) (by kernel_rfl) ?_ (fun hHeld => ?_)
      ·
       try dsimp only
       exact zQ
      refine zU 0 rfl ?_
      refine zU 1 rfl ?_
      refine zU 3 rfl ?_
      refine zU 4 rfl ?_
      refine zU 5 rfl ?_
      refine zU 6 rfl ?_
      refine wpAnyH_ready (rs := [2]) (by kernel_rfl) (by simp) ?_
      refine (AllReadyH.cons rfl (fun K hK => ?_) AllReadyH.nil)
      go_simp
      refine hK.out _ _ zQ fun hNext => ?_; clear hK K hHeld; have hHeld := hNext; clear hNext; (try dsimp only at hHeld); try simp only [zX]
      refine zU 7 rfl ?_
      refine zU 8 rfl ?_
      refine wpAnyH_ready (rs := [9]) (by kernel_rfl) (by simp) ?_
      refine (AllReadyH.cons rfl (fun K hK => ?_) AllReadyH.nil)
      go_simp
      refine hK.out _ _ zQ fun hNext => ?_; clear hK K hHeld; have hHeld := hNext; clear hNext; (try dsimp only at hHeld); try simp only [zX]
      refine wpAnyH_done (by kernel_rfl) ?_ _
      have R8 := hide (((HW7.out.setL hr12 a).same (L' := L) (fun i => by rw [← HAE.out]; exact updL_back L r _ i)).drew)
      clear hHeld c1 c2 c3 y0 ly lbp ep
      go_wp2_with fail
      go_roundw
      case rel => exact ⟨r + 1, _, by go_num, by omega, fun j hj hj2 => by
        rcases Nat.lt_or_ge j r with h1 | h1
        ·
         exact HNO.out j h1 hj2
        ·
         rw [show j = r by omega, HT.out, HRC.out]; rfl, R8.out⟩
      case measure => simp [intOf]; omega
    ·
     rw [if_neg hor] at hcl
     have HCL := hide hcl
     have hmx1 : ¬ (o : Int) < (r : Int) + 1 := by omega
     clear hcl
     cases rc with
     | some R' =>
      have hrs : res = some (r :: R') := by
       rw [← HRES.out, rlS_cons]
       exact findSome_first (k := r) (fun j hj => HNO.out j hj (by omega)) (by rw [HT.out, HRC.out]; rfl) hrm
      subst hrs
      go_wp2_with (go_at_call 118; refine HCL.out.mono ?_; rintro e w6 ⟨ov6, L6, rfl, hW6⟩; have HW6 := hide hW6; clear hW6 n0 ln)
      go_ret
      exact ⟨ov6, L6, rfl, by have h6 := HW6.out; rw [List.append_assoc] at h6; exact h6⟩
     | none =>
      go_upto_region 13 with (go_at_call 118; refine HCL.out.mono ?_; rintro e w6 ⟨ov6, rfl, hW6⟩; obtain ⟨A6, cap6, hv6, hcap6⟩ := hW6.form; subst hv6; have p0 := cellOf hW6.oc 0; have p1 := unfrozenOf hW6.oc 0; have lp6 := box_lt hW6.oc; have HW6 := hide hW6; clear hW6 n0 ln)
      have HW7 := hide HW6.out.pop
      generalize hw7 : World.setCell _ _ _ = w7 at HW7 ⊢
      clear hw7 p0 p1 lp6 hcap6
      obtain ⟨c1, c2, c3⟩ := HW7.out.lf.cell hr12
      have hc1 : updL L r (a - x2) r = a - x2 := by unfold updL; rw [if_pos rfl]
      rw [hc1] at c1
      have y0 := cellOf HW7.out.pc 0
      have ly := box_lt HW7.out.pc
      obtain ⟨bp3, offp3, x3, HX3, hA3, hbp, hq, ep⟩ := (HII.out.below HW7.out.below).at7 hil
      have hxp3 : x3 = x2 := by rw [← HX3.out, HPE.out]
      subst hxp3
      injection hA3 with hA3
      injection hA3 with e1 e2
      subst e1 e2
      have lbp : bp < w7.heap.size := Nat.lt_of_lt_of_le hbp HW7.out.below.size
      have wr2 : IntKind.i64.wrap (a - x3 + x3) = a := by rw [Int.sub_add_cancel]; exact IntWalk.i64_in _ (by omega)
      clear hbp hq hc1
      refine wp_region_held_drew (S := (fun w' => Keeps (fun j => j = lp ∨ j = lp) w7 w')) (by kernel_rfl) ?_ (fun hHeld => ?_)
      ·
       try dsimp only
       exact zQ
      refine zU 0 rfl ?_
      refine zU 1 rfl ?_
      refine zU 3 rfl ?_
      refine zU 4 rfl ?_
      refine zU 5 rfl ?_
      refine zU 6 rfl ?_
      refine wpAnyH_ready (rs := [2]) (by kernel_rfl) (by simp) ?_
      refine (AllReadyH.cons rfl (fun K hK => ?_) AllReadyH.nil)
      go_simp
      refine hK.out _ _ zQ fun hNext => ?_; clear hK K hHeld; have hHeld := hNext; clear hNext; (try dsimp only at hHeld); try simp only [zX]
      refine zU 7 rfl ?_
      refine zU 8 rfl ?_
      refine wpAnyH_ready (rs := [9]) (by kernel_rfl) (by simp) ?_
      refine (AllReadyH.cons rfl (fun K hK => ?_) AllReadyH.nil)
      go_simp
      refine hK.out _ _ zQ fun hNext => ?_; clear hK K hHeld; have hHeld := hNext; clear hNext; (try dsimp only at hHeld); try simp only [zX]
      refine wpAnyH_done (by kernel_rfl) ?_ _
      have R8 := hide (((HW7.out.setL hr12 a).same (L' := L) (fun i => by rw [← HAE.out]; exact updL_back L r _ i)).drew)
      clear hHeld c1 c2 c3 y0 ly lbp ep
      go_wp2_with fail
      go_roundw
      case rel => exact ⟨r + 1, _, by go_num, by omega, fun j hj hj2 => by
        rcases Nat.lt_or_ge j r with h1 | h1
        ·
         exact HNO.out j h1 hj2
        ·
         rw [show j = r by omega, HT.out, HRC.out]; rfl, R8.out⟩
      case measure => simp [intOf]; omega
end Go.Proofs.YtehadoecnmfeoaaGreat

/- Part 0 of this claim's texts: walks and plain laws. -/
import Derived.Below
import Derived.Laws.World
import Derived.Deep.QuietTactic
import Derived.Lib.Hide
import Derived.OwnWalk
import Derived.Laws.AppendOwn
import Derived.Deep.Slices
import Derived.Deep.AppendLies
import Derived.ProofKit
import Derived.Lib.SmallJoins
import Derived.Deep.Fields
import Derived.ChangeSame
import Derived.Test.YtmabfnddedffoaaRows
import Derived.Maps.OwnSet
import Derived.Maps.OwnOps
import Derived.DeepKeys4
import Derived.Laws.OwnMore
import Derived.Deep.Draws
import Derived.Maps.AppendAt
import Derived.RegionTactic
import Derived.Deep.RegionHeld
import Derived.OneCell
import Derived.RangeFuncFrom
import Derived.WalkKit
import Derived.BigQuiet
import Derived.BigRegion
import Derived.IntWalk
import Derived.Deep.CutRange
import Derived.Deep.RegionHeld3
import Derived.StillTailTactics
/- Small laws of my own on worlds, for all the walks of this seat: no condition. -/
namespace Go.Proofs.Ytmabfnddedffoaa
theorem zA {α : Type} {xs : List α} {i : Nat} (h : i < xs.toArray.size) : xs.toArray[i] = xs[i]'(by simpa using h) := List.getElem_toArray h
theorem zB {α : Type} {a : α} {xs : List α} {i : Nat} (h : i + 1 < (a :: xs).length) : (a :: xs)[i + 1] = xs[i]'(Nat.lt_of_succ_lt_succ h) := List.getElem_cons_succ ..
theorem zC {α : Type} {a : α} {xs : List α} (h : 0 < (a :: xs).length) : (a :: xs)[0] = a := List.getElem_cons_zero ..
theorem zD {α : Type} (l : List α) (i : Nat) (a : α) : l.toArray.setIfInBounds i a = (l.set i a).toArray := List.setIfInBounds_toArray ..
theorem zE {α : Type} {xs : List α} {x y : α} : (x :: xs).set 0 y = y :: xs := List.set_cons_zero
theorem zF {α : Type} {xs : List α} {n : Nat} {x y : α} : (x :: xs).set (n + 1) y = x :: xs.set n y := List.set_cons_succ
open Go.RowKit

theorem Below.drewN {B : Nat} {a w : World} (h : Below B a w) (n : Nat) : Below B a (w.drewN n) := ⟨h.os, h.tape, h.output, h.size, h.block⟩
theorem bcell {W w1 : World} (hb : Below W.heap.size W w1) : (∀ b o, b < W.heap.size → w1.cell? ⟨b, o, none⟩ = W.cell? ⟨b, o, none⟩) ∧ (∀ b o, b < W.heap.size → w1.frozen? ⟨b, o, none⟩ = W.frozen? ⟨b, o, none⟩) :=
  ⟨fun b o h => hb.cell (p := ⟨b, o, none⟩) h, fun b o h => hb.frozen (p := ⟨b, o, none⟩) h⟩
theorem Below.to {B : Nat} {a b c : World} (h : Below B a b) (k : Below b.heap.size b c) (hB : B ≤ a.heap.size) : Below B a c := h.trans (k.mono (Nat.le_trans hB h.size))
theorem Below.allocT {B : Nat} {a w : World} (h : Below B a w) (hB : B ≤ a.heap.size) (o : Obj) : Below B a (w.alloc o) := h.alloc (Nat.le_trans hB h.size) o
theorem only_setCell {a w : World} {g : Nat} (h : a.grownBy w (some g)) {p : Addr} (hp : p.block = g ∨ a.heap.size ≤ p.block) (u : Value) : a.grownBy (w.setCell p u) (some g) :=
  ⟨h.os, h.tape, h.output, by simpa [World.setCell] using h.size, fun i hi hne => (Below.heap_setCell w p u i (by
    rintro rfl
    rcases hp with hp | hp
    · exact hne (by rw [hp])
    · omega)).trans (h.block i hi hne)⟩
theorem only_refl (w : World) (row : Option Nat) : w.grownBy w row := World.grownBy.refl w row
theorem hide {p : Prop} (h : p) : Hid p := h
end Go.Proofs.Ytmabfnddedffoaa
/- Small laws of my own on slices in memory, for all the walks of this seat: no condition. -/
namespace Go.Proofs.Ytmabfnddedffoaa
open Go.RowKit

/-- The slice value v has n elements of sz cells each, and cell j of element i holds f i j; they lie below block B. -/
def Sl (w : World) (B sz : Nat) (v : Value) (n : Nat) (f : Nat → Nat → Value) : Prop :=
  ∃ (A : Option Addr) (b off cap : Nat), v = .slice A n cap ∧ n ≤ cap ∧ (A = some ⟨b, off, none⟩ ∧ b < B ∨ n = 0) ∧ ∀ i j, i < n → j < sz → w.cell? ⟨b, off + (i * sz + j), none⟩ = some (f i j)

theorem Sl.keep {w w' : World} {B sz n : Nat} {v : Value} {f : Nat → Nat → Value} (h : Sl w B sz v n f) (hk : ∀ b o, b < B → w'.cell? ⟨b, o, none⟩ = w.cell? ⟨b, o, none⟩) : Sl w' B sz v n f := by
  obtain ⟨A, b, off, cap, hv, hn, hA, hc⟩ := h
  refine ⟨A, b, off, cap, hv, hn, hA, fun i j hi hj => ?_⟩
  rcases hA with ⟨_, hb⟩ | h0
  · rw [hk _ _ hb]; exact hc i j hi hj
  · omega
theorem Sl.more {w : World} {B B' sz n : Nat} {v : Value} {f : Nat → Nat → Value} (h : Sl w B sz v n f) (hB : B ≤ B') : Sl w B' sz v n f := by
  obtain ⟨A, b, off, cap, hv, hn, hA, hc⟩ := h
  exact ⟨A, b, off, cap, hv, hn, hA.imp (fun ⟨a, c⟩ => ⟨a, by omega⟩) id, hc⟩
theorem Sl.below {w w' : World} {B sz n : Nat} {v : Value} {f : Nat → Nat → Value} (h : Sl w B sz v n f) (hb : Below B w w') : Sl w' B sz v n f :=
  h.keep fun b o hlt => hb.cell (p := ⟨b, o, none⟩) hlt
/-- Behind a call that changes nothing below its own heap. -/
theorem Sl.to {w w' : World} {B sz n : Nat} {v : Value} {f : Nat → Nat → Value} (h : Sl w B sz v n f) (hb : Below w.heap.size w w') (hB : B ≤ w.heap.size) : Sl w' B sz v n f := h.below (hb.mono hB)
theorem Sl.up {w w' : World} {sz n : Nat} {v : Value} {f : Nat → Nat → Value} (h : Sl w w.heap.size sz v n f) (hb : Below w.heap.size w w') : Sl w' w'.heap.size sz v n f := (h.below hb).more hb.size
theorem Sl.form {w : World} {B sz n : Nat} {v : Value} {f : Nat → Nat → Value} (h : Sl w B sz v n f) : ∃ A cap, v = .slice A n cap := by
  obtain ⟨A, b, off, cap, hv, _⟩ := h
  exact ⟨A, cap, hv⟩
theorem Sl.nil (w : World) (B sz : Nat) (f : Nat → Nat → Value) : Sl w B sz (.slice none 0 0) 0 f :=
  ⟨none, 0, 0, 0, rfl, Nat.le_refl _, .inr rfl, fun i j h => absurd h (by omega)⟩
theorem Sl.congr {w : World} {B sz n : Nat} {v : Value} {f g : Nat → Nat → Value} (h : Sl w B sz v n f) (hfg : ∀ i j, i < n → j < sz → f i j = g i j) : Sl w B sz v n g := by
  obtain ⟨A, b, off, cap, hv, hn, hA, hc⟩ := h
  exact ⟨A, b, off, cap, hv, hn, hA, fun i j hi hj => by rw [hc i j hi hj, hfg i j hi hj]⟩

/-- The place of the first element of a list of which p holds, and -1 if there is none. -/
def idxI {α : Type} (p : α → Bool) : List α → Int
  | [] => -1
  | a :: r => if p a then 0 else if idxI p r < 0 then -1 else idxI p r + 1
theorem idxI_at {α : Type} (p : α → Bool) (z : α) : ∀ (l : List α) (k : Nat), (∀ j, j < k → p (l.getD j z) = false) → k < l.length → p (l.getD k z) = true → idxI p l = k
  | [], k, _, h, _ => by simp at h
  | a :: r, 0, _, _, h => by
    have h' : p a = true := by simpa using h
    simp [idxI, h']
  | a :: r, k + 1, h, hk, hp => by
    have h0 : p a = false := by simpa using h 0 (by omega)
    have := idxI_at p z r k (fun j hj => by have := h (j + 1) (by omega); simpa using this) (by simpa using hk) (by simpa using hp)
    simp only [idxI, h0, this]
    simp
    omega
theorem idxI_none {α : Type} (p : α → Bool) (z : α) : ∀ (l : List α), (∀ j, j < l.length → p (l.getD j z) = false) → idxI p l = -1
  | [], _ => rfl
  | a :: r, h => by
    have h0 : p a = false := by simpa using h 0 (by simp)
    have := idxI_none p z r (fun j hj => by have := h (j + 1) (by simpa using hj); simpa using this)
    simp [idxI, h0, this]
theorem idxI_any {α : Type} (p : α → Bool) : ∀ (l : List α), decide (0 ≤ idxI p l) = l.any p
  | [] => by simp [idxI]
  | a :: r => by
    have ih := idxI_any p r
    cases ha : p a
    · simp only [idxI, ha, List.any_cons, Bool.false_or]
      rw [← ih]
      simp only [Bool.false_eq_true, if_false]
      split
      · rename_i hlt
        simp
        omega
      · rename_i hge
        rw [decide_eq_decide]
        omega
    · simp [idxI, ha]
theorem idxI_lo {α : Type} (p : α → Bool) : ∀ (l : List α), -1 ≤ idxI p l
  | [] => by simp [idxI]
  | a :: r => by
    have ih := idxI_lo p r
    simp only [idxI]
    split
    · omega
    · split <;> omega
theorem idxI_hi {α : Type} (p : α → Bool) : ∀ (l : List α), idxI p l ≤ l.length
  | [] => by simp [idxI]
  | a :: r => by
    have ih := idxI_hi p r
    simp only [idxI, List.length_cons]
    split
    · omega
    · split <;> omega

end Go.Proofs.Ytmabfnddedffoaa
/- Lemmas for the frame of a law, as the guide's pages lay them for copying, and some of my own: no condition. -/
namespace Go.Proofs.Ytmabfnddedffoaa
open Go.Joins Go.ChangeShapes Go.WideShapes Go.ChangeAt Go.RowKit Go.Deep

section
variable {H : Type} {enc : TypeId × Value → H} {P : Program}
theorem post_of_below {f : Func} {s : ChangeSpec} {apart fresh handsOn again : Bool} {W W' : World} {args : Array Value} {v : Value} {ds gs : List (DataW H)} {before pa pv : List MemPlace}
    (hW : DataW.Whole enc P f.params.toList s.vars apart W args.toList ds gs before)
    (hres : ∀ (b : Nat) (sp : Nat → Bool) (hd : Bool), DataW.TrodAll enc P W' b sp hd f.resultTypes.toList (v.resultList f.resultTypes.size) (s.fn H (ds ++ gs)).results [])
    (hargs : ∀ sp : Nat → Bool, (∀ p ∈ before, sp p.block = true) → DataW.TrodAll enc P W' 0 sp true f.params.toList args.toList (s.fn H (ds ++ gs)).args pa)
    (hvars : ∀ sp : Nat → Bool, (∀ p ∈ before, sp p.block = true) → DataW.TrodVars enc P W' sp s.vars (s.fn H (ds ++ gs)).vars pv)
    (hps : before = pa ++ pv) (hb : Below W.heap.size W W')
    (hok : ∀ (j : Nat) (t : TypeId) (r : Value), f.resultTypes[j]? = some t → (v.resultList f.resultTypes.size)[j]? = some r → Value.okWide P W' .any 0 t r) :
    s.post enc P f apart fresh handsOn again W args v W' := by
  have hlt : ∀ p ∈ before, p.block < W.heap.size := fun p hp => hW.lt p hp
  have hold : ∀ p ∈ before, (fun b => decide (b < W.heap.size)) p.block = true := fun p hp => by simpa using hlt p hp
  refine ⟨ds, gs, before, [], pa, pv, hW, hres _ _ _, hargs _ hold, hvars _ hold, World.keptBut_mono (fun p hp => ⟨hp, ?_⟩) (hb.frame (· ∈ before)), fun _ => ?_⟩
  · rw [hps, List.mem_append] at hp
    exact Or.inr hp
  · obtain ⟨_, _, _, _, _, hz, hn⟩ := hW
    refine ⟨hok, _, _, ([] ++ pa) ++ pv, ⟨[] ++ pa, pv, trodAll_append (hargs _ (fun _ _ => rfl)) (hres _ _ _), hvars _ (fun _ _ => rfl), rfl, ?_, ?_⟩, ?_⟩
    · intro b off hp
      have hin : MemPlace.cell b off ∈ before := by rw [hps]; simpa using hp
      rw [hb.frozen (hlt _ hin)]
      exact hz b off hin
    · intro ha
      have := hn ha
      rw [hps] at this
      simpa using this
    · intro p hp _
      rw [hps]
      simpa using hp

/-- Arguments read as they did, where nothing below the old heap has changed. -/
theorem trodAll_stays (hl : laidOutB P = true) {W W' : World} (hb : Below W.heap.size W W') (sp : Nat → Bool) : ∀ (ts : List TypeId) (vs : List Value) (ds : List (DataW H)) (ps : List MemPlace),
    (∀ t ∈ ts, P.readableRec t = true ∧ t < P.types.size) → DataW.TrodAll enc P W 0 (fun _ => true) true ts vs ds ps → (∀ x ∈ ps, x.block < W.heap.size) → (∀ x ∈ ps, sp x.block = true) → DataW.TrodAll enc P W' 0 sp true ts vs ds ps
  | [], [], [], _, _, h, _, _ => h
  | t :: ts, v :: vs, d :: ds, ps, hr, ⟨p, q, h1, h2, hp⟩, hlt, hsp => by
    subst hp
    refine ⟨p, q, ?_, trodAll_stays hl hb sp ts vs ds q (fun t' ht => hr t' (List.mem_cons_of_mem _ ht)) h2 (fun x hx => hlt x (List.mem_append_right _ hx)) (fun x hx => hsp x (List.mem_append_right _ hx)), rfl⟩
    have h := hr t (List.mem_cons_self ..)
    exact WideElems.Trod_stays hl h.1 h.2 h1 (fun x hx => hb.same (hlt x (List.mem_append_left _ hx))) (fun x hx => hsp x (List.mem_append_left _ hx))
end

section
variable {H : Type} {enc : TypeId × Value → H} {P : Program} {w : World} {base : Nat} {spare : Nat → Bool} {held : Bool}
end
end Go.Proofs.Ytmabfnddedffoaa
/- A slice argument opened, whatever its elements are: each element by a law of its own. No condition. -/
namespace Go.Proofs.Ytmabfnddedffoaa
open Go.Joins Go.ChangeShapes Go.WideShapes Go.ChangeAt Go.RowKit Go.Deep

theorem choose_upto {α : Type} (z : α) {n : Nat} {Q : Nat → α → Prop} (h : ∀ i, i < n → ∃ x, Q i x) : ∃ xs : List α, xs.length = n ∧ ∀ i, i < n → Q i (xs.getD i z) := by
  induction n with
  | zero => exact ⟨[], rfl, fun i hi => absurd hi (by omega)⟩
  | succ n ih =>
    obtain ⟨xs, hl, hx⟩ := ih fun i hi => h i (by omega)
    obtain ⟨y, hy⟩ := h n (by omega)
    refine ⟨xs ++ [y], by simp [hl], fun i hi => ?_⟩
    rcases Nat.lt_or_ge i n with h1 | h1
    · have := hx i h1
      rw [List.getD_eq_getElem?_getD, List.getElem?_append_left (by omega), ← List.getD_eq_getElem?_getD]
      exact this
    · have he : i = n := by omega
      subst he
      rw [List.getD_eq_getElem?_getD, List.getElem?_append_right (by omega), hl]
      simpa using hy

section
variable {H : Type} {enc : TypeId × Value → H} {P : Program} {w : World} {base : Nat} {spare : Nat → Bool} {held : Bool}
theorem addr_of_cell {a : Addr} {u : Value} (h : w.cell? (a.add 0) = some u) : a.spot = none ∧ a.block < w.heap.size := by
  have h' : w.cell? a = some u := h
  unfold World.cell? at h'
  cases hh : w.heap[a.block]? with
  | none => rw [hh] at h'; cases h'
  | some o =>
    refine ⟨?_, (Array.getElem?_eq_some_iff.1 hh).1⟩
    rw [hh] at h'
    cases o with
    | cells c t f =>
      simp only at h'
      cases hsp : a.spot with
      | none => rfl
      | some q => rw [if_pos (by simp [hsp])] at h'; cases h'
    | _ => cases h'
theorem cell_of_add {a : Addr} {m : Nat} {u : Value} (hs : a.spot = none) (h : w.cell? (a.add m) = some u) : w.cell? ⟨a.block, a.off + m, none⟩ = some u := by
  obtain ⟨b, o, s⟩ := a
  simp only at hs
  subst hs
  unfold Addr.add at h
  split at h
  · rename_i h0
    rw [h0]; exact h
  · exact h

theorem open_rows {α : Type} (z : α) (F : α → Nat → Value) (R : α → Prop) {t e : TypeId} {sz n : Nat} {c : Value} {y : DataW H × List MemPlace} (ht : P.underlying t = some (.slice e)) (hC : P.cellsOf e = sz) (hsz : 0 < sz)
    (hopen : ∀ (n : Nat) (cs' : List Value) (y : DataW H × List MemPlace), cs'.length = sz → DataW.trod enc P w base spare held n e cs' = some y → ∃ x : α, (∀ j, j < sz → cs'[j]? = some (F x j)) ∧ R x)
    (h : DataW.trod enc P w base spare held n t [c] = some y) :
    ∃ xs : List α, Sl w w.heap.size sz c xs.length (fun i j => F (xs.getD i z) j) ∧ xs.length ≤ maxLen ∧ ∀ i, i < xs.length → R (xs.getD i z) := by
  rcases open_slice ht h with ⟨hcs, _⟩ | ⟨a, len, cap, m, n', D, Pl, hcs, _, hl, hm, hmm, _, hel⟩
  · simp at hcs
    subst hcs
    exact ⟨[], Sl.nil _ _ _ _, by simp, fun i hi => absurd hi (by simp)⟩
  · simp at hcs
    subst hcs
    have hlm : len ≤ m := by rw [hmm]; split <;> omega
    have hx : ∀ i, i < len → ∃ x : α, (∀ j, j < sz → w.cell? (a.add (i * sz + j)) = some (F x j)) ∧ R x := by
      intro i hi
      obtain ⟨cs', hc, ht'⟩ := hel i (by omega)
      rw [hC] at hc
      obtain ⟨_, hcl, hat⟩ := World.cells?_some hc
      obtain ⟨x, hx, hr⟩ := hopen _ _ _ hcl ht'
      refine ⟨x, fun j hj => ?_, hr⟩
      rw [← Go.Deep.add_add, hat j hj]
      exact hx j hj
    obtain ⟨xs, hlen, hxs⟩ := choose_upto z hx
    refine ⟨xs, ?_, by omega, fun i hi => (hxs i (by omega)).2⟩
    rw [hlen]
    rcases Nat.eq_zero_or_pos len with h0 | h0
    · exact ⟨_, 0, 0, _, rfl, hl, .inr h0, fun i j hi => absurd hi (by omega)⟩
    · have h1 := (hxs 0 h0).1 0 hsz
      rw [Nat.zero_mul] at h1
      obtain ⟨hs, hb⟩ := addr_of_cell h1
      exact ⟨_, a.block, a.off, _, rfl, hl, .inl ⟨by rw [← hs], hb⟩, fun i j hi hj => cell_of_add hs ((hxs i hi).1 j hj)⟩
end
end Go.Proofs.Ytmabfnddedffoaa
/- Reduced ordered diagrams: nodes, what they say, and that equal ones are one node. Plain laws. -/
namespace Go.Proofs.Ytmabfnddedffoaa
set_option linter.unusedVariables false
/-- A node of a diagram. -/
structure Kn where
  opt : Nat
  low : Nat
  high : Nat
theorem Kn.ext' {a b : Kn} (h1 : a.opt = b.opt) (h2 : a.low = b.low) (h3 : a.high = b.high) : a = b := by cases a; cases b; simp_all
def Kn.z : Kn := ⟨0, 0, 0⟩
instance : DecidableEq Kn := fun a b => if h : a.opt = b.opt ∧ a.low = b.low ∧ a.high = b.high then isTrue (Kn.ext' h.1 h.2.1 h.2.2) else isFalse fun e => h (by subst e; exact ⟨rfl, rfl, rfl⟩)

/-- Whether a node holds for a choice of the options: followed for at most so many steps. -/
def evF (ks : List Kn) (v : Nat → Bool) : Nat → Nat → Bool
  | 0, n => n == 1
  | m + 1, n => if n < 2 then n == 1 else evF ks v m (if v (ks.getD n Kn.z).opt then (ks.getD n Kn.z).high else (ks.getD n Kn.z).low)
def ev (ks : List Kn) (v : Nat → Bool) (n : Nat) : Bool := evF ks v n n
def topK (ks : List Kn) (n : Nat) : Nat := (ks.getD n Kn.z).opt
def lowK (ks : List Kn) (n : Nat) : Nat := (ks.getD n Kn.z).low
def highK (ks : List Kn) (n : Nat) : Nat := (ks.getD n Kn.z).high

/-- The nodes of reduced diagrams over N options. -/
structure WF (N : Nat) (ks : List Kn) : Prop where
  two : 2 ≤ ks.length
  top0 : topK ks 0 = N
  top1 : topK ks 1 = N
  opt : ∀ i, 2 ≤ i → i < ks.length → topK ks i < N
  low : ∀ i, 2 ≤ i → i < ks.length → lowK ks i < i
  high : ∀ i, 2 ≤ i → i < ks.length → highK ks i < i
  ne : ∀ i, 2 ≤ i → i < ks.length → lowK ks i ≠ highK ks i
  topl : ∀ i, 2 ≤ i → i < ks.length → topK ks i < topK ks (lowK ks i)
  toph : ∀ i, 2 ≤ i → i < ks.length → topK ks i < topK ks (highK ks i)
  inj : ∀ i j, 2 ≤ i → i < ks.length → 2 ≤ j → j < ks.length → ks.getD i Kn.z = ks.getD j Kn.z → i = j

section
variable {N : Nat} {ks : List Kn} (h : WF N ks)
include h
theorem WF.top_le : ∀ i, i < ks.length → topK ks i ≤ N := by
  intro i hi
  rcases Nat.lt_or_ge i 2 with h2 | h2
  · rcases (by omega : i = 0 ∨ i = 1) with rfl | rfl
    · exact Nat.le_of_eq h.top0
    · exact Nat.le_of_eq h.top1
  · exact Nat.le_of_lt (h.opt i h2 hi)
theorem evF_fuel (v : Nat → Bool) : ∀ (m m' n : Nat), n < ks.length → n ≤ m → n ≤ m' → evF ks v m n = evF ks v m' n
  | 0, 0, n, _, _, _ => rfl
  | 0, m' + 1, n, _, h1, _ => by
    obtain rfl : n = 0 := by omega
    rfl
  | m + 1, 0, n, _, _, h1 => by
    obtain rfl : n = 0 := by omega
    rfl
  | m + 1, m' + 1, n, hn, h1, h2 => by
    simp only [evF]
    by_cases hn2 : n < 2
    · rw [if_pos hn2, if_pos hn2]
    · rw [if_neg hn2, if_neg hn2]
      have hl := h.low n (by omega) hn
      have hh := h.high n (by omega) hn
      unfold lowK at hl; unfold highK at hh
      split
      · exact evF_fuel v m m' _ (by omega) (by omega) (by omega)
      · exact evF_fuel v m m' _ (by omega) (by omega) (by omega)
omit h in
theorem ev_zero (v : Nat → Bool) : ev ks v 0 = false := rfl
omit h in
theorem ev_one (v : Nat → Bool) : ev ks v 1 = true := rfl
theorem ev_step (v : Nat → Bool) {n : Nat} (h2 : 2 ≤ n) (hn : n < ks.length) : ev ks v n = if v (topK ks n) then ev ks v (highK ks n) else ev ks v (lowK ks n) := by
  have hl := h.low n h2 hn
  have hh := h.high n h2 hn
  unfold ev
  obtain ⟨m, rfl⟩ : ∃ m, n = m + 1 := ⟨n - 1, by omega⟩
  conv => lhs; simp only [evF]
  rw [if_neg (by omega)]
  unfold topK
  cases v (ks.getD (m + 1) Kn.z).opt with
  | true =>
    simp only [if_true]
    exact evF_fuel h v _ _ _ (by unfold highK at hh; omega) (by unfold highK at hh; omega) (Nat.le_refl _)
  | false =>
    simp only [Bool.false_eq_true, if_false]
    exact evF_fuel h v _ _ _ (by unfold lowK at hl; omega) (by unfold lowK at hl; omega) (Nat.le_refl _)
/-- A node asks for its own option and later ones alone. -/
theorem ev_congr (v v' : Nat → Bool) : ∀ (n : Nat), n < ks.length → (∀ i, topK ks n ≤ i → i < N → v i = v' i) → ev ks v n = ev ks v' n := by
  intro n
  induction n using Nat.strongRecOn with
  | ind n ih =>
    intro hn hv
    rcases Nat.lt_or_ge n 2 with h2 | h2
    · rcases (by omega : n = 0 ∨ n = 1) with rfl | rfl <;> rfl
    · have hl := h.low n h2 hn
      have hh := h.high n h2 hn
      have tl := h.topl n h2 hn
      have th := h.toph n h2 hn
      rw [ev_step h v h2 hn, ev_step h v' h2 hn, hv _ (Nat.le_refl _) (h.opt n h2 hn), ih _ hl (by omega) (fun i h1 h3 => hv i (by omega) h3), ih _ hh (by omega) (fun i h1 h3 => hv i (by omega) h3)]
omit h in
def chgV (v : Nat → Bool) (o : Nat) (b : Bool) : Nat → Bool := fun i => if i = o then b else v i
omit h in
theorem chgV_same (v : Nat → Bool) (o : Nat) (b : Bool) : chgV v o b o = b := by simp [chgV]
/-- Where a node leads to at an option. -/
def brK (ks : List Kn) (n o : Nat) (b : Bool) : Nat := if topK ks n = o then (if b then highK ks n else lowK ks n) else n
theorem two_of_top {n o : Nat} (ht : topK ks n = o) (ho : o < N) : 2 ≤ n := by
  rcases Nat.lt_or_ge n 2 with h2 | h2
  · rcases (by omega : n = 0 ∨ n = 1) with rfl | rfl
    · rw [h.top0] at ht; omega
    · rw [h.top1] at ht; omega
  · exact h2
theorem brK_lt {n o : Nat} {b : Bool} (hn : n < ks.length) (ho : o < N) : brK ks n o b < ks.length := by
  unfold brK
  split
  · rename_i ht
    have h2 := two_of_top h ht ho
    have hl := h.low n h2 hn
    have hh := h.high n h2 hn
    split <;> omega
  · exact hn
theorem brK_ev {n o : Nat} {b : Bool} (hn : n < ks.length) (ho : o < N) (v : Nat → Bool) (hv : v o = b) : ev ks v (brK ks n o b) = ev ks v n := by
  unfold brK
  split
  · rename_i ht
    have h2 := two_of_top h ht ho
    rw [ev_step h v h2 hn, ht, hv]
    cases b <;> rfl
  · rfl
theorem brK_top {n o : Nat} {b : Bool} (hn : n < ks.length) (ho : o < N) (hle : o ≤ topK ks n) : o + 1 ≤ topK ks (brK ks n o b) := by
  unfold brK
  split
  · rename_i ht
    have h2 := two_of_top h ht ho
    have tl := h.topl n h2 hn
    have th := h.toph n h2 hn
    split <;> omega
  · omega
theorem ev_upd {n o : Nat} {b : Bool} (hn : n < ks.length) (ho : o < topK ks n) (v : Nat → Bool) : ev ks (chgV v o b) n = ev ks v n :=
  ev_congr h _ _ n hn fun i h1 _ => by
    unfold chgV; rw [if_neg (by omega)]
/-- Two nodes that hold for the same choices are one node. -/
theorem canon : ∀ (m a b : Nat), a + b ≤ m → a < ks.length → b < ks.length → (∀ v, ev ks v a = ev ks v b) → a = b := by
  intro m
  induction m with
  | zero => intro a b hab _ _ _; omega
  | succ m ih =>
    have key : ∀ a b, a + b ≤ m + 1 → a < ks.length → b < ks.length → (∀ v, ev ks v a = ev ks v b) → topK ks a < topK ks b → False := by
      intro a b hab ha hb hv ht
      have hta : topK ks a < N := Nat.lt_of_lt_of_le ht (h.top_le b hb)
      have h2 := two_of_top h rfl hta
      have hl := h.low a h2 ha
      have hh := h.high a h2 ha
      have tl := h.topl a h2 ha
      have th := h.toph a h2 ha
      have e1 : ∀ v, ev ks v (lowK ks a) = ev ks v b := fun v => by
        have := hv (chgV v (topK ks a) false)
        rw [ev_step h _ h2 ha, chgV_same, ev_upd h hb ht] at this
        simp only [Bool.false_eq_true, if_false] at this
        rw [ev_upd h (by omega) tl] at this
        exact this
      have e2 : ∀ v, ev ks v (highK ks a) = ev ks v b := fun v => by
        have := hv (chgV v (topK ks a) true)
        rw [ev_step h _ h2 ha, chgV_same, ev_upd h hb ht] at this
        simp only [if_true] at this
        rw [ev_upd h (by omega) th] at this
        exact this
      have f1 := ih _ _ (by omega) (by omega) hb e1
      have f2 := ih _ _ (by omega) (by omega) hb e2
      exact h.ne a h2 ha (f1.trans f2.symm)
    intro a b hab ha hb hv
    rcases Nat.lt_trichotomy (topK ks a) (topK ks b) with ht | ht | ht
    · exact (key a b hab ha hb hv ht).elim
    · by_cases hN : topK ks a < N
      · have h2 := two_of_top h rfl hN
        have h3 : 2 ≤ b := two_of_top h rfl (ht ▸ hN)
        have hl := h.low a h2 ha
        have hh := h.high a h2 ha
        have tl := h.topl a h2 ha
        have th := h.toph a h2 ha
        have hl' := h.low b h3 hb
        have hh' := h.high b h3 hb
        have tl' := h.topl b h3 hb
        have th' := h.toph b h3 hb
        have e1 : ∀ v, ev ks v (lowK ks a) = ev ks v (lowK ks b) := fun v => by
          have := hv (chgV v (topK ks a) false)
          rw [ev_step h _ h2 ha, ev_step h _ h3 hb, ← ht, chgV_same] at this
          simp only [Bool.false_eq_true, if_false] at this
          rw [ev_upd h (by omega) tl, ev_upd h (by omega) (by omega)] at this
          exact this
        have e2 : ∀ v, ev ks v (highK ks a) = ev ks v (highK ks b) := fun v => by
          have := hv (chgV v (topK ks a) true)
          rw [ev_step h _ h2 ha, ev_step h _ h3 hb, ← ht, chgV_same] at this
          simp only [if_true] at this
          rw [ev_upd h (by omega) th, ev_upd h (by omega) (by omega)] at this
          exact this
        have f1 := ih _ _ (by omega) (by omega) (by omega) e1
        have f2 := ih _ _ (by omega) (by omega) (by omega) e2
        exact h.inj a b h2 ha h3 hb (Kn.ext' ht f1 f2)
      · have ha2 : a < 2 := by
          rcases Nat.lt_or_ge a 2 with h2 | h2
          · exact h2
          · exact absurd (h.opt a h2 ha) hN
        have hb2 : b < 2 := by
          rcases Nat.lt_or_ge b 2 with h2 | h2
          · exact h2
          · exact absurd (ht ▸ h.opt b h2 hb) hN
        have := hv fun _ => false
        rcases (by omega : a = 0 ∨ a = 1) with rfl | rfl <;> rcases (by omega : b = 0 ∨ b = 1) with rfl | rfl <;> simp [ev_zero, ev_one] at this ⊢
    · exact (key b a (by omega) hb ha (fun v => (hv v).symm) ht).elim
theorem canonical {a b : Nat} (ha : a < ks.length) (hb : b < ks.length) (hv : ∀ v, ev ks v a = ev ks v b) : a = b := canon h _ a b (Nat.le_refl _) ha hb hv
end

/-! more nodes -/
theorem getD_old {ks : List Kn} (e : List Kn) {n : Nat} (hn : n < ks.length) : (ks ++ e).getD n Kn.z = ks.getD n Kn.z := by
  simp [List.getD_eq_getElem?_getD, List.getElem?_append_left hn]
theorem topK_old {ks : List Kn} (e : List Kn) {n : Nat} (hn : n < ks.length) : topK (ks ++ e) n = topK ks n := by unfold topK; rw [getD_old e hn]
theorem lowK_old {ks : List Kn} (e : List Kn) {n : Nat} (hn : n < ks.length) : lowK (ks ++ e) n = lowK ks n := by unfold lowK; rw [getD_old e hn]
theorem highK_old {ks : List Kn} (e : List Kn) {n : Nat} (hn : n < ks.length) : highK (ks ++ e) n = highK ks n := by unfold highK; rw [getD_old e hn]
theorem evF_old {N : Nat} {ks : List Kn} (h : WF N ks) (e : List Kn) (v : Nat → Bool) : ∀ (m n : Nat), n < ks.length → evF (ks ++ e) v m n = evF ks v m n
  | 0, n, _ => rfl
  | m + 1, n, hn => by
    simp only [evF]
    rw [getD_old e hn]
    by_cases h2 : n < 2
    · rw [if_pos h2, if_pos h2]
    · rw [if_neg h2, if_neg h2]
      have hl := h.low n (by omega) hn
      have hh := h.high n (by omega) hn
      unfold lowK at hl; unfold highK at hh
      split
      · exact evF_old h e v m _ (by omega)
      · exact evF_old h e v m _ (by omega)
theorem ev_old {N : Nat} {ks : List Kn} (h : WF N ks) (e : List Kn) (v : Nat → Bool) {n : Nat} (hn : n < ks.length) : ev (ks ++ e) v n = ev ks v n := evF_old h e v n n hn
theorem WF.snoc {N : Nat} {ks : List Kn} (h : WF N ks) {k : Kn} (ho : k.opt < N) (hl : k.low < ks.length) (hh : k.high < ks.length) (hne : k.low ≠ k.high) (tl : k.opt < topK ks k.low) (th : k.opt < topK ks k.high) (hnew : ∀ i, 2 ≤ i → i < ks.length → ks.getD i Kn.z ≠ k) : WF N (ks ++ [k]) := by
  have hlen : (ks ++ [k]).length = ks.length + 1 := by simp
  have hget : (ks ++ [k]).getD ks.length Kn.z = k := by simp [List.getD_eq_getElem?_getD]
  have hw := h.two
  refine ⟨by omega, by rw [topK_old _ (by omega)]; exact h.top0, by rw [topK_old _ (by omega)]; exact h.top1, ?_, ?_, ?_, ?_, ?_, ?_, ?_⟩
  · intro i h2 hi
    rcases Nat.lt_or_ge i ks.length with hlt | hge
    · rw [topK_old _ hlt]; exact h.opt i h2 hlt
    · obtain rfl : i = ks.length := by omega
      unfold topK; rw [hget]; exact ho
  · intro i h2 hi
    rcases Nat.lt_or_ge i ks.length with hlt | hge
    · rw [lowK_old _ hlt]; exact h.low i h2 hlt
    · obtain rfl : i = ks.length := by omega
      unfold lowK; rw [hget]; exact hl
  · intro i h2 hi
    rcases Nat.lt_or_ge i ks.length with hlt | hge
    · rw [highK_old _ hlt]; exact h.high i h2 hlt
    · obtain rfl : i = ks.length := by omega
      unfold highK; rw [hget]; exact hh
  · intro i h2 hi
    rcases Nat.lt_or_ge i ks.length with hlt | hge
    · rw [lowK_old _ hlt, highK_old _ hlt]; exact h.ne i h2 hlt
    · obtain rfl : i = ks.length := by omega
      unfold lowK highK; rw [hget]; exact hne
  · intro i h2 hi
    rcases Nat.lt_or_ge i ks.length with hlt | hge
    · have := h.low i h2 hlt
      rw [topK_old _ hlt, lowK_old _ hlt, topK_old _ (by omega)]; exact h.topl i h2 hlt
    · obtain rfl : i = ks.length := by omega
      have e1 : topK (ks ++ [k]) ks.length = k.opt := by unfold topK; rw [hget]
      have e2 : lowK (ks ++ [k]) ks.length = k.low := by unfold lowK; rw [hget]
      rw [e1, e2, topK_old _ hl]; exact tl
  · intro i h2 hi
    rcases Nat.lt_or_ge i ks.length with hlt | hge
    · have := h.high i h2 hlt
      rw [topK_old _ hlt, highK_old _ hlt, topK_old _ (by omega)]; exact h.toph i h2 hlt
    · obtain rfl : i = ks.length := by omega
      have e1 : topK (ks ++ [k]) ks.length = k.opt := by unfold topK; rw [hget]
      have e2 : highK (ks ++ [k]) ks.length = k.high := by unfold highK; rw [hget]
      rw [e1, e2, topK_old _ hh]; exact th
  · intro i j h2 hi h3 hj he
    rcases Nat.lt_or_ge i ks.length with hlt | hge
    · rcases Nat.lt_or_ge j ks.length with hlt' | hge'
      · rw [getD_old _ hlt, getD_old _ hlt'] at he; exact h.inj i j h2 hlt h3 hlt' he
      · obtain rfl : j = ks.length := by omega
        rw [getD_old _ hlt, hget] at he
        exact absurd he (hnew i h2 hlt)
    · obtain rfl : i = ks.length := by omega
      rcases Nat.lt_or_ge j ks.length with hlt' | hge'
      · rw [getD_old _ hlt', hget] at he
        exact absurd he.symm (hnew j h3 hlt')
      · omega
theorem WF.start (N : Nat) : WF N [⟨N, 0, 0⟩, ⟨N, 0, 0⟩] := by
  refine ⟨by simp, rfl, rfl, ?_, ?_, ?_, ?_, ?_, ?_, ?_⟩ <;> intro i <;> intros <;> simp at * <;> omega
end Go.Proofs.Ytmabfnddedffoaa
/- Variants in order; which of them a node holds in, and how many. Plain laws. -/
namespace Go.Proofs.Ytmabfnddedffoaa
set_option linter.unusedVariables false
/-- What a list of choices says of an option. -/
def vf (l : List Bool) : Nat → Bool := fun i => l.getD i false
/-- All variants that begin with a list, in order. -/
def exts : Nat → List Bool → List (List Bool)
  | 0, l => [l]
  | k + 1, l => exts k (l ++ [false]) ++ exts k (l ++ [true])
theorem exts_map : ∀ (k : Nat) (l m : List Bool), exts k (l ++ m) = (exts k m).map (l ++ ·)
  | 0, l, m => rfl
  | k + 1, l, m => by
    simp only [exts, List.map_append]
    rw [List.append_assoc, List.append_assoc, exts_map k l, exts_map k l]
theorem exts_nil (k : Nat) (l : List Bool) : exts k l = (exts k []).map (l ++ ·) := by
  have := exts_map k l []
  rwa [List.append_nil] at this
theorem exts_len : ∀ (k : Nat) (l x : List Bool), x ∈ exts k l → x.length = l.length + k
  | 0, l, x, h => by simp [exts] at h; subst h; rfl
  | k + 1, l, x, h => by
    simp only [exts, List.mem_append] at h
    rcases h with h | h <;> have := exts_len k _ x h <;> simp at this <;> omega
theorem exts_all : ∀ (k : Nat) (x : List Bool), x.length = k → x ∈ exts k []
  | 0, x, h => by simp [exts]; exact List.length_eq_zero_iff.1 h
  | k + 1, x, h => by
    match x, h with
    | b :: r, h =>
      have h1 : r.length = k := by simpa using h
      have := exts_all k r h1
      simp only [exts, List.mem_append]
      cases b
      · refine .inl ?_
        rw [exts_nil, List.mem_map]
        exact ⟨r, this, rfl⟩
      · refine .inr ?_
        rw [exts_nil, List.mem_map]
        exact ⟨r, this, rfl⟩
theorem exts_length : ∀ (k : Nat) (l : List Bool), (exts k l).length = 2 ^ k
  | 0, l => rfl
  | k + 1, l => by simp only [exts, List.length_append, exts_length k]; omega
theorem exts_prefix {k : Nat} {l x : List Bool} (h : x ∈ exts k l) : ∃ y, x = l ++ y ∧ y.length = k := by
  rw [exts_nil, List.mem_map] at h
  obtain ⟨y, hy, rfl⟩ := h
  exact ⟨y, rfl, by simpa using exts_len k [] y hy⟩
theorem vf_at (l : List Bool) (b : Bool) (y : List Bool) : vf (l ++ [b] ++ y) l.length = b := by
  simp [vf, List.getD_eq_getElem?_getD]
theorem vf_right {l y : List Bool} {i : Nat} (hi : l.length ≤ i) : vf (l ++ y) i = vf y (i - l.length) := by
  simp [vf, List.getD_eq_getElem?_getD, List.getElem?_append_right hi]

/-- The variants in which a node holds that begin with a list. -/
def sat (ks : List Kn) (N n : Nat) (l : List Bool) : List (List Bool) := (exts (N - l.length) l).filter fun x => ev ks (vf x) n
theorem sat_zero (ks : List Kn) (N : Nat) (l : List Bool) : sat ks N 0 l = [] := by
  unfold sat; rw [List.filter_eq_nil_iff]; intro x _; simp [ev_zero]
theorem sat_one (ks : List Kn) (N : Nat) (l : List Bool) : sat ks N 1 l = exts (N - l.length) l := by
  unfold sat; rw [List.filter_eq_self]; intro x _; simp [ev_one]
theorem sat_split {ks : List Kn} {N n : Nat} {l : List Bool} (hl : l.length < N) : sat ks N n l = sat ks N n (l ++ [false]) ++ sat ks N n (l ++ [true]) := by
  unfold sat
  rw [show N - l.length = (N - (l ++ [false]).length) + 1 from by simp; omega]
  simp only [exts, List.filter_append, List.length_append, List.length_singleton]
section
variable {N : Nat} {ks : List Kn} (h : WF N ks)
include h
theorem sat_br {n : Nat} {l : List Bool} {b : Bool} (hn : n < ks.length) (hl : l.length < N) : sat ks N (brK ks n l.length b) (l ++ [b]) = sat ks N n (l ++ [b]) := by
  unfold sat
  refine List.filter_congr fun x hx => ?_
  obtain ⟨y, rfl, _⟩ := exts_prefix hx
  exact brK_ev h hn hl _ (vf_at l b y)
theorem sat_step {n : Nat} {l : List Bool} (hn : n < ks.length) (hl : l.length < N) : sat ks N n l = sat ks N (brK ks n l.length false) (l ++ [false]) ++ sat ks N (brK ks n l.length true) (l ++ [true]) := by
  rw [sat_split hl, sat_br h hn hl, sat_br h hn hl]
/-- A node that is not 'no' holds somewhere. -/
theorem ev_some {n : Nat} (hn : n < ks.length) (h0 : n ≠ 0) : ∃ v, ev ks v n = true := by
  have h2 := h.two
  rcases Classical.em (∃ v, ev ks v n = true) with hv | hv
  · exact hv
  · exact absurd (canonical h hn (by omega) (fun v => by
      have h1 : ¬ ev ks v n = true := fun e => hv ⟨v, e⟩
      rw [ev_zero]; simpa using h1)) h0
theorem sat_ne {n : Nat} {l : List Bool} (hn : n < ks.length) (h0 : n ≠ 0) (hl : l.length ≤ topK ks n) : sat ks N n l ≠ [] := by
  obtain ⟨v, hv⟩ := ev_some h hn h0
  have ht := h.top_le n hn
  have hx : l ++ (List.range (N - l.length)).map (fun i => v (l.length + i)) ∈ sat ks N n l := by
    unfold sat
    refine List.mem_filter.2 ⟨?_, ?_⟩
    · rw [exts_nil, List.mem_map]
      exact ⟨_, exts_all _ _ (by simp), rfl⟩
    · rw [← hv]
      refine ev_congr h _ _ n hn fun i h1 h2 => ?_
      rw [vf_right (by omega)]
      unfold vf
      simp only [List.getD_eq_getElem?_getD, List.getElem?_map]
      rw [List.getElem?_range (by omega)]
      simp only [Option.map_some, Option.getD_some]
      congr 1
      omega
  intro e
  rw [e] at hx
  cases hx
omit h in
/-- In how many variants of the options from one on a node holds. -/
def cntK (ks : List Kn) (N n o : Nat) : Nat := (sat ks N n (List.replicate o false)).length
end
/-! more nodes change nothing -/
end Go.Proofs.Ytmabfnddedffoaa
/- Formulas: which are valid, what they say. Plain laws. -/
namespace Go.Proofs.Ytmabfnddedffoaa
set_option linter.unusedVariables false
/-- How many operands a number of a formula has. -/
def arO (o : Int) : Nat := if o = -3 then 1 else if o = -4 ∨ o = -5 ∨ o = -6 then 2 else 0
/-- Whether numbers are so many terms, one after the other. -/
def vld (N : Nat) : Nat → List Int → Bool
  | 0, [] => true
  | _ + 1, [] => false
  | 0, _ :: _ => false
  | w + 1, o :: r => decide (-6 ≤ o) && decide (o < N) && vld N (w + arO o) r
def validF (N : Nat) (f : List Int) : Bool := vld N 1 f && decide (f.length ≤ 100)
/-- What one number does to the values of the terms behind it. -/
def stp (v : Nat → Bool) (o : Int) (S : List Bool) : List Bool :=
  if o = -1 then true :: S
  else if o = -2 then false :: S
  else if o = -3 then (!S.headD false) :: S.drop 1
  else if o = -4 then (S.headD false && (S.drop 1).headD false) :: S.drop 2
  else if o = -5 then (S.headD false || (S.drop 1).headD false) :: S.drop 2
  else if o = -6 then (S.headD false == (S.drop 1).headD false) :: S.drop 2
  else v o.toNat :: S
def evS (v : Nat → Bool) (f : List Int) : List Bool := f.foldr (stp v) []
/-- Whether a formula holds. -/
def evF1 (v : Nat → Bool) (f : List Int) : Bool := (evS v f).headD false
theorem evS_cons (v : Nat → Bool) (o : Int) (r : List Int) : evS v (o :: r) = stp v o (evS v r) := rfl
theorem evS_len {N : Nat} (v : Nat → Bool) : ∀ (f : List Int) (w : Nat), vld N w f = true → (evS v f).length = w
  | [], 0, _ => rfl
  | [], w + 1, h => by simp [vld] at h
  | o :: r, 0, h => by simp [vld] at h
  | o :: r, w + 1, h => by
    simp only [vld, Bool.and_eq_true, decide_eq_true_eq] at h
    have ih := evS_len v r _ h.2
    rw [evS_cons]
    unfold stp arO at *
    repeat' split at ih
    all_goals (repeat' split)
    all_goals (simp only [List.length_cons, List.length_drop, ih]; try omega)
theorem vld_drop {N : Nat} : ∀ (f : List Int) (w : Nat), vld N w f = true → ∀ k, k ≤ f.length → ∃ w', vld N w' (f.drop k) = true
  | f, w, h, 0, _ => ⟨w, h⟩
  | [], w, h, k + 1, hk => by simp at hk
  | o :: r, 0, h, k + 1, _ => by simp [vld] at h
  | o :: r, w + 1, h, k + 1, hk => by
    simp only [vld, Bool.and_eq_true, decide_eq_true_eq] at h
    exact vld_drop r _ h.2 k (by simpa using hk)
theorem vld_le {N : Nat} : ∀ (f : List Int) (w : Nat), vld N w f = true → w ≤ f.length
  | [], 0, _ => Nat.le_refl _
  | [], w + 1, h => by simp [vld] at h
  | o :: r, 0, h => Nat.zero_le _
  | o :: r, w + 1, h => by
    simp only [vld, Bool.and_eq_true, decide_eq_true_eq] at h
    have := vld_le r _ h.2
    simp only [List.length_cons]; omega
/-- What is known of a number of a valid formula. -/
theorem vld_at {N : Nat} {f : List Int} {w k : Nat} (h : vld N w f = true) (hk : k < f.length) : ∃ w', vld N (w' + 1) (f.drop k) = true ∧ vld N (w' + arO (f.getD k 0)) (f.drop (k + 1)) = true ∧ -6 ≤ f.getD k 0 ∧ f.getD k 0 < N := by
  obtain ⟨w1, h1⟩ := vld_drop f w h k (by omega)
  have hd : f.drop k = f.getD k 0 :: f.drop (k + 1) := by
    rw [List.drop_eq_getElem_cons hk, List.getD_eq_getElem?_getD, List.getElem?_eq_getElem hk]; rfl
  rw [hd] at h1
  match w1, h1 with
  | 0, h1 => simp [vld] at h1
  | w1 + 1, h1 =>
    refine ⟨w1, by rw [hd]; exact h1, ?_⟩
    simp only [vld, Bool.and_eq_true, decide_eq_true_eq] at h1
    exact ⟨h1.2, h1.1.1, h1.1.2⟩
theorem drop_getD {f : List Int} {k : Nat} (hk : k < f.length) : f.drop k = f.getD k 0 :: f.drop (k + 1) := by
  rw [List.drop_eq_getElem_cons hk, List.getD_eq_getElem?_getD, List.getElem?_eq_getElem hk]; rfl
theorem validF_pos {N : Nat} {f : List Int} (h : validF N f = true) : 1 ≤ f.length ∧ f.length ≤ 100 := by
  simp only [validF, Bool.and_eq_true, decide_eq_true_eq] at h
  refine ⟨?_, h.2⟩
  match f, h.1 with
  | [], h => simp [vld] at h
  | o :: r, _ => simp
theorem validF_one {N : Nat} {f : List Int} (h : validF N f = true) (v : Nat → Bool) : evS v f = [evF1 v f] := by
  simp only [validF, Bool.and_eq_true, decide_eq_true_eq] at h
  have := evS_len v f 1 h.1
  unfold evF1
  match hs : evS v f, this with
  | [x], _ => rfl
/-- The variants of a model in which a list of formulas holds. -/
def allF (v : Nat → Bool) (l : List (List Int)) : Bool := l.all fun f => evF1 v f
end Go.Proofs.Ytmabfnddedffoaa
/- Names, and which models are valid. Plain laws. -/
namespace Go.Proofs.Ytmabfnddedffoaa
set_option linter.unusedVariables false
/-- Whether a byte may stand in a name. -/
def alN (c : UInt8) : Bool := (decide (97 ≤ c.toNat) && decide (c.toNat ≤ 122)) || (decide (48 ≤ c.toNat) && decide (c.toNat ≤ 57))
def smN (c : UInt8) : Bool := decide (97 ≤ c.toNat) && decide (c.toNat ≤ 122)
/-- How many bytes at the beginning may stand in a name. -/
def wordN : List UInt8 → Nat
  | [] => 0
  | c :: r => if alN c then wordN r + 1 else 0
theorem wordN_at : ∀ (l : List UInt8) (k : Nat), k < l.length → (∀ j, j < k → alN (l.getD j 0) = true) → alN (l.getD k 0) = false → wordN l = k
  | [], k, h, _, _ => by simp at h
  | c :: r, 0, _, _, h => by
    simp only [List.getD_cons_zero] at h
    simp [wordN, h]
  | c :: r, k + 1, hk, h1, h2 => by
    have h3 := h1 0 (by omega)
    simp only [List.getD_cons_zero] at h3
    have h4 := wordN_at r k (by simpa using hk) (fun j hj => by have := h1 (j + 1) (by omega); simpa using this) (by simpa using h2)
    simp [wordN, h3, h4]
theorem wordN_all : ∀ (l : List UInt8), (∀ j, j < l.length → alN (l.getD j 0) = true) → wordN l = l.length
  | [], _ => rfl
  | c :: r, h => by
    have h3 := h 0 (by simp)
    simp only [List.getD_cons_zero] at h3
    have h4 := wordN_all r (fun j hj => by have := h (j + 1) (by simpa using hj); simpa using this)
    simp [wordN, h3, h4]
/-- Whether a text is a name. -/
def namedB (l : List UInt8) : Bool := decide (1 ≤ l.length) && decide (l.length ≤ 8) && smN (l.getD 0 0) && decide (l ≠ [121, 101, 115]) && decide (l ≠ [110, 111]) && decide (wordN l = l.length)
/-- Whether options are names, each another one. -/
def namesB : List (List UInt8) → List (List UInt8) → Bool
  | _, [] => true
  | seen, n :: r => namedB n && !seen.contains n && namesB (seen ++ [n]) r
structure Mo where
  opts : List ByteArray
  rules : List (List Int)
def Mo.names (m : Mo) : List (List UInt8) := m.opts.map fun s => s.data.toList
def Mo.err (m : Mo) : Int := if 40 < m.opts.length ∨ 60 < m.rules.length then 2 else if namesB [] m.names = false then 10 else if m.rules.all (validF m.opts.length) = false then 11 else 0
/-- The error of a model and formulas. -/
def Mo.errF (m : Mo) (l : List (List Int)) : Int := if m.err ≠ 0 then m.err else if l.all (validF m.opts.length) = false then 11 else 0
theorem namesB_at : ∀ (seen l : List (List UInt8)) (k : Nat), k < l.length → (∀ j, j < k → namedB (l.getD j []) = true ∧ (seen ++ l.take j).contains (l.getD j []) = false) → (namedB (l.getD k []) && !(seen ++ l.take k).contains (l.getD k [])) = false → namesB seen l = false
  | seen, [], k, h, _, _ => by simp at h
  | seen, n :: r, 0, _, _, h => by
    simp only [List.getD_cons_zero, List.take_zero, List.append_nil] at h
    simp only [namesB, h, Bool.false_and]
  | seen, n :: r, k + 1, hk, h1, h2 => by
    have h3 := h1 0 (by omega)
    simp only [List.getD_cons_zero, List.take_zero, List.append_nil] at h3
    have h4 := namesB_at (seen ++ [n]) r k (by simpa using hk) (fun j hj => by
      have := h1 (j + 1) (by omega)
      simpa using this) (by simpa using h2)
    simp only [namesB, h4, Bool.and_false]
theorem namesB_all : ∀ (seen l : List (List UInt8)), (∀ j, j < l.length → namedB (l.getD j []) = true ∧ (seen ++ l.take j).contains (l.getD j []) = false) → namesB seen l = true
  | seen, [], _ => rfl
  | seen, n :: r, h1 => by
    have h3 := h1 0 (by simp)
    simp only [List.getD_cons_zero, List.take_zero, List.append_nil] at h3
    have h4 := namesB_all (seen ++ [n]) r (fun j hj => by
      have := h1 (j + 1) (by simpa using hj)
      simpa using this)
    simp only [namesB, h3.1, h3.2, h4, Bool.not_false, Bool.and_self]
theorem Mo.ok {m : Mo} (h : m.err = 0) : m.opts.length ≤ 40 ∧ m.rules.length ≤ 60 ∧ namesB [] m.names = true ∧ ∀ f ∈ m.rules, validF m.opts.length f = true := by
  unfold Mo.err at h
  split at h
  · simp at h
  · rename_i h1
    split at h
    · simp at h
    · rename_i h2
      split at h
      · simp at h
      · rename_i h3
        exact ⟨by omega, by omega, by simpa using h2, List.all_eq_true.1 (by simpa using h3)⟩
theorem Mo.okF {m : Mo} {l : List (List Int)} (h : m.errF l = 0) : m.err = 0 ∧ ∀ f ∈ l, validF m.opts.length f = true := by
  unfold Mo.errF at h
  split at h
  · rename_i h1; exact absurd h h1
  · rename_i h1
    split at h
    · simp at h
    · rename_i h3
      exact ⟨by omega, List.all_eq_true.1 (by simpa using h3)⟩
end Go.Proofs.Ytmabfnddedffoaa
/- A map of numbers in memory, as a function from keys to numbers. -/
namespace Go.Proofs.Ytmabfnddedffoaa
open Go.Maps (Keyed)
set_option linter.unusedVariables false
section
variable {α : Type} {P : Program} {w : World} {k e b n : Nat} {enc : α → Value} {m : α → Option Int}
/-- Block b is a map that holds the number m a at the key enc a, where there is one. -/
def MapIs (P : Program) (w : World) (k e b n : Nat) (enc : α → Value) (m : α → Option Int) : Prop :=
  ∃ D : DataW Unit, w.ownsMap P k (plainElem P e) b n D ∧ ∀ a l, keyOf P k (enc a) = some l →
    (m a = none → Maps.has D l = false) ∧ ∀ x, m a = some x → Maps.has D l = true ∧ D.atKey l (.lit (.int .i64 0)) = .lit (.int .i64 x)
theorem MapIs.made (P : Program) (w : World) (k e : Nat) (enc : α → Value) : MapIs P (w.alloc (.map #[] 0)) k e w.heap.size 0 enc (fun _ => none) :=
  ⟨_, World.ownsMap_made w P k _, fun a l _ => ⟨fun _ => rfl, fun x h => by cases h⟩⟩
theorem MapIs.mono (h : MapIs P w k e b n enc m) {n' : Nat} (hn : n ≤ n') : MapIs P w k e b n' enc m := by
  obtain ⟨D, h1, h2⟩ := h
  exact ⟨D, h1.mono hn, h2⟩
theorem MapIs.lt (h : MapIs P w k e b n enc m) : b < w.heap.size := by
  obtain ⟨D, h1, _⟩ := h
  exact h1.lt
theorem MapIs.same {w' : World} (h : MapIs P w k e b n enc m) (hb : w'.heap[b]? = w.heap[b]?) : MapIs P w' k e b n enc m := by
  obtain ⟨D, ⟨es, c, h0, h1⟩, h2⟩ := h
  exact ⟨D, ⟨es, c, hb.trans h0, h1⟩, h2⟩
theorem MapIs.obj (h : MapIs P w k e b n enc m) : ∃ es c, w.heap[b]? = some (.map es c) := by
  obtain ⟨D, ⟨es, c, h0, h1⟩, h2⟩ := h
  exact ⟨es, c, h0⟩
variable {t : Nat}
theorem MapIs.look (h : MapIs P w k e b n enc m) (K : Keyed P k) (ht : P.underlying t = some (.map k e)) (he : P.underlying e = some (.int .i64)) (hz : (zeroValue e).run P w = .ok (.int .i64 0) w) {a : α} {l : Lit} (hkey : keyOf P k (enc a) = some l) :
    (Instr.lookup t (.map (some b)) (enc a) true).run P w = .ok (.tuple #[.int .i64 ((m a).getD 0), .bool (m a).isSome]) w := by
  obtain ⟨D, h1, h2⟩ := h
  obtain ⟨h3, h4⟩ := h2 a l hkey
  obtain ⟨v, ps, hrun, hv⟩ := h1.look_ok K ht hz (plainElem_int he (by decide)) hkey
  obtain ⟨c, rfl, hc, _⟩ := plainElem_int_inv he hv
  injection hc with hc _
  cases hm : m a with
  | none =>
    have h5 := h3 hm
    rw [Maps.atKey_of_not_has h5] at hc
    injection hc with hc
    injection hc with _ hc
    subst hc
    rw [hrun, h5]
    rfl
  | some x =>
    obtain ⟨h5, h6⟩ := h4 x hm
    rw [h6] at hc
    injection hc with hc
    injection hc with _ hc
    subst hc
    rw [hrun, h5]
    rfl
/-- The map with one more number. -/
def putM [DecidableEq α] (m : α → Option Int) (a : α) (x : Int) : α → Option Int := fun a' => if a' = a then some x else m a'
theorem MapIs.put' [DecidableEq α] (K : Keyed P k) (hinj : ∀ a a', enc a = enc a' → a = a') {D : DataW Unit} (h1 : w.ownsMap P k (plainElem P e) b n D) (h2 : ∀ a l, keyOf P k (enc a) = some l →
    (m a = none → Maps.has D l = false) ∧ ∀ x, m a = some x → Maps.has D l = true ∧ D.atKey l (.lit (.int .i64 0)) = .lit (.int .i64 x)) {a : α} {l : Lit} (hkey : keyOf P k (enc a) = some l) (x : Int) {w' : World} (h3 : w'.ownsMap P k (plainElem P e) b (n + 1) (D.put l (.lit (.int .i64 x)))) :
    MapIs P w' k e b (n + 1) enc (putM m a x) := by
  refine ⟨_, h3, fun a' l' hk' => ?_⟩
  unfold putM
  by_cases ha : a' = a
  · subst ha
    rw [hkey] at hk'
    injection hk' with hk'
    subst hk'
    rw [if_pos rfl]
    exact ⟨fun h => (by cases h), fun y hy => by
      injection hy with hy
      subst hy
      exact ⟨Maps.has_put_same h1.isMap (K.key hkey) _, Maps.atKey_put_same h1.isMap (K.key hkey) _ _⟩⟩
  · rw [if_neg ha]
    have hl : l' ≠ l := fun e => by
      subst e
      exact ha (hinj _ _ (K.inj hk' hkey))
    obtain ⟨h4, h5⟩ := h2 a' l' hk'
    refine ⟨fun h => (Maps.has_put_other hl _).trans (h4 h), fun y hy => ?_⟩
    obtain ⟨h6, h7⟩ := h5 y hy
    exact ⟨(Maps.has_put_other hl _).trans h6, (Maps.atKey_put_other hl _ _).trans h7⟩
theorem MapIs.put [DecidableEq α] (h : MapIs P w k e b n enc m) (K : Keyed P k) (ht : P.underlying t = some (.map k e)) (he : P.underlying e = some (.int .i64)) (hinj : ∀ a a', enc a = enc a' → a = a') (hn : n < maxLen) {a : α} {l : Lit} (hkey : keyOf P k (enc a) = some l) {x : Int} (hx : (Lit.int .i64 x).wf = true) :
    ∃ w', (Instr.mapUpdate t (.map (some b)) (enc a) (.int .i64 x)).run P w = .ok () w' ∧ MapIs P w' k e b (n + 1) enc (putM m a x) ∧ w.grownBy w' (some b) := by
  obtain ⟨D, h1, h2⟩ := h
  obtain ⟨w', hrun, h3, h4⟩ := h1.update K ht hn hkey (plainElem_int he hx)
  exact ⟨w', hrun, MapIs.put' K hinj h1 h2 hkey x h3, h4⟩
/-- The same for the walk, at the operation. -/
theorem wpList_put [DecidableEq α] (w : World) {ops : Array Oper} {rest : List Oper} {o : Oper} {ac : Act} {Q : Exit → Act → World → Prop}
    (hg : o.guard = none) (om ox ov : Operand) (t : Nat) (hop : o.op = Op.mapUpdate t om ox ov) {k e b n : Nat} {enc : α → Value} {m : α → Option Int}
    (h : MapIs P w k e b n enc m) (K : Keyed P k) (ht : P.underlying t = some (.map k e)) (he : P.underlying e = some (.int .i64)) (hinj : ∀ a a', enc a = enc a' → a = a') (hn : n < maxLen) (a : α) (hkey : ∃ l, keyOf P k (enc a) = some l) (x : Int) (hx : (Lit.int .i64 x).wf = true)
    (h1 : ac.eval om = .map (some b)) (h2 : ac.eval ox = enc a) (h3 : ac.eval ov = .int .i64 x)
    (hK : ∀ w', MapIs P w' k e b (n + 1) enc (putM m a x) → w.grownBy w' (some b) → wpList P ops Q rest (ac.put o.dst undef) w') :
    wpList P ops Q (o :: rest) ac w := by
  obtain ⟨l, hkey⟩ := hkey
  obtain ⟨D, hD, hA⟩ := h
  exact wpList_mapUpdate_own w hg om ox ov t hop k e K ht _ b n D h1 hD hn _ _ l h2 h3 hkey _ _ (plainElem_int he hx) fun w' h4 h5 => hK w' (MapIs.put' K hinj hD hA hkey x h4) h5
end
end Go.Proofs.Ytmabfnddedffoaa
/- Lemmas on slices that read as lists and on append, as the guide's page of words lays them for copying, and bridges of my own: no condition. -/
namespace Go.Proofs.Ytmabfnddedffoaa
open Go.RowKit

theorem block_of_add (a : Addr) (n : Nat) : (a.add n).block = a.block := by unfold Addr.add; split <;> rfl
theorem add_of_add (a : Addr) (i j : Nat) : (a.add i).add j = a.add (i + j) := by
  unfold Addr.add
  by_cases hi : i = 0 <;> by_cases hj : j = 0 <;> simp [hi, hj, Nat.add_assoc]

def Reads (w : World) (B size : Nat) (A : Option Addr) (n : Nat) (xs : List Value) : Prop :=
  xs.length = n * size ∧ (0 < n → ∃ ad, A = some ad ∧ ad.block < B ∧ ∀ j u, xs[j]? = some u → w.cell? (ad.add j) = some u)

section
variable {w w' : World} {B B' size n : Nat} {A : Option Addr} {xs : List Value}
theorem Reads.at_ {k : Nat} (h : Reads w B 1 A n xs) (hk : k < n) : ∃ ad u, A = some ad ∧ ad.block < B ∧ xs[k]? = some u ∧ w.cell? (ad.add k) = some u := by
  obtain ⟨ad, e, hb, hc⟩ := h.2 (by omega)
  have hl : k < xs.length := by have := h.1; omega
  exact ⟨ad, xs[k], e, hb, List.getElem?_eq_getElem hl, hc k _ (List.getElem?_eq_getElem hl)⟩
theorem Reads.keep (h : Reads w B size A n xs) (hk : ∀ p : Addr, p.block < B → w'.cell? p = w.cell? p) : Reads w' B size A n xs :=
  ⟨h.1, fun hn => by
    obtain ⟨ad, e, hb, hc⟩ := h.2 hn
    exact ⟨ad, e, hb, fun j u hu => (hk _ (by rw [block_of_add]; exact hb)).trans (hc j u hu)⟩⟩
theorem Reads.more (h : Reads w B size A n xs) (hB : B ≤ B') : Reads w B' size A n xs :=
  ⟨h.1, fun hn => by
    obtain ⟨ad, e, hb, hc⟩ := h.2 hn
    exact ⟨ad, e, by omega, hc⟩⟩
theorem Reads.below (h : Reads w B size A n xs) (hb : Below B w w') : Reads w' B size A n xs := h.keep fun _ hp => hb.cell hp
theorem Reads.drew (h : Reads w B size A n xs) : Reads w.drew B size A n xs := h
theorem Reads.drewN (h : Reads w B size A n xs) (k : Nat) : Reads (w.drewN k) B size A n xs := h
theorem Reads.alloc (h : Reads w B size A n xs) (hB : B ≤ w.heap.size) (o : Obj) : Reads (w.alloc o) B size A n xs := h.keep fun p hp => World.cell?_alloc_lt w o p (by omega)
theorem Reads.setCell (h : Reads w B size A n xs) {p : Addr} (hB : B ≤ p.block) (u : Value) : Reads (w.setCell p u) B size A n xs :=
  h.keep fun q hq => World.cell?_setCell_other w p q u (fun e => by subst e; omega)
theorem Reads.grown (h : Reads w B size A n xs) {row : Option Nat} (hg : w.grownBy w' row) (hB : B ≤ w.heap.size) (hr : ∀ g, row = some g → B ≤ g) : Reads w' B size A n xs :=
  h.keep fun p hp => World.cell?_of_block (hg.block p.block (by omega) (fun e => by have := hr _ e.symm; omega))
theorem Reads.cut (h : Reads w B size A n xs) {k cap : Nat} (hk : k ≤ n) (hc : n ≤ cap) :
    Reads w B size (if cap = k then A else A.map (·.add (k * size))) (n - k) (xs.drop (k * size)) := by
  refine ⟨by rw [List.length_drop, h.1, Nat.sub_mul], fun hn => ?_⟩
  obtain ⟨ad, rfl, hb, hcell⟩ := h.2 (by omega)
  rw [if_neg (by omega)]
  refine ⟨ad.add (k * size), rfl, by rw [block_of_add]; exact hb, fun j u hu => ?_⟩
  rw [add_of_add]
  exact hcell _ u (by rw [← hu, List.getElem?_drop])
theorem Reads.of_own {base : Nat} {e : TypeId} {c : Nat} (h : w.ownsRow base e size (.slice A n c) n xs) : Reads w w.heap.size size A n xs := by
  refine ⟨h.1, fun hn => ?_⟩
  obtain ⟨g, cap, hv, _, hlt⟩ := h.form hn
  have hA : A = some ⟨g, 0, none⟩ := by injection hv
  subst hA
  exact ⟨_, rfl, hlt, h.cells (g := g) rfl⟩
end

section
variable {P : Program} (w : World)

theorem run_append_of_nil (base : Nat) (t ty e : TypeId) (i : TypeInfo) (size : Nat) (ht : P.underlying t = some (.slice e)) (hi : P.info? e = some i)
    (v : Value) (n : Nat) (xs : List Value) (hown : w.ownsRow base e size v n xs) (c : Nat) : (Builtin.append_ #[t, t] ty #[v, .slice none 0 c]).run P w = .ok v w := by
  rcases hown.2 with ⟨rfl, rfl⟩ | ⟨g, cap, cur, rfl, _, _, hnc, _⟩
  · simp [Builtin.append_, run_underlying ht, sizeOf, typeInfo, hi, Builtin.lenOf, Builtin.firstCells]
  · simp [Builtin.append_, run_underlying ht, sizeOf, typeInfo, hi, Builtin.lenOf, Builtin.firstCells, hnc, storeCells]

theorem run_append_any (base : Nat) (t ty e : TypeId) (i : TypeInfo) (z : Value) (size bytes : Nat) (ht : P.underlying t = some (.slice e)) (hi : P.info? e = some i) (hz : i.zero = some z)
    (hsize : i.size = size) (hby : i.bytes = bytes) (hzs : z.cells.size = size) (hsz : 0 < size)
    (v : Value) (n : Nat) (xs : List Value) (hown : w.ownsRow base e size v n xs)
    (B : Nat) (A : Option Addr) (m c : Nat) (news : List Value) (hr : Reads w B size A m news) (h1 : ∀ u ∈ news, u.oneCell' = true)
    (h63 : n + m ≤ maxLen) (hbytes : (n + m) * bytes ≤ 140737488355328) (hbase : base ≤ w.heap.size) :
    ∃ v' w', (Builtin.append_ #[t, t] ty #[v, .slice A m c]).run P w = .ok v' w' ∧ w'.ownsRow base e size v' (n + m) (xs ++ news) ∧ w.grownBy w' v.ownBlock ∧
      (v'.ownBlock = v.ownBlock ∨ v'.ownBlock = some w.heap.size) := by
  rcases A with _ | ad
  · have hm : m = 0 := by
      rcases Nat.eq_zero_or_pos m with h0 | h0
      · exact h0
      · obtain ⟨ad, h, _⟩ := hr.2 h0
        cases h
    subst hm
    have hn : news = [] := List.eq_nil_of_length_eq_zero (by simpa using hr.1)
    subst hn
    exact ⟨v, w, run_append_of_nil w base t ty e i size ht hi v n xs hown c, by simpa using hown, World.grownBy.refl w _, .inl rfl⟩
  · have hcells : ∀ j u, news[j]? = some u → w.cell? (ad.add j) = some u := by
      intro j u hu
      rcases Nat.eq_zero_or_pos m with h0 | h0
      · subst h0
        have hn : news = [] := List.eq_nil_of_length_eq_zero (by simpa using hr.1)
        subst hn
        simp at hu
      · obtain ⟨ad', h, _, hc⟩ := hr.2 h0
        injection h with h
        subst h
        exact hc j u hu
    obtain ⟨v', w', hrun, h2, h3, _, h5⟩ := run_append_own_at (P := P) w base t ty e i z size bytes ht hi hz hsize hby hzs hsz v n xs hown ad m c news hr.1 hcells h1 h63 hbytes hbase
    exact ⟨v', w', hrun, h2, h3, h5⟩

theorem wp_append_any {o : Oper} {a : Act} {K : Act → World → Prop} {Q : Exit → Act → World → Prop} (s x : Operand) (t : TypeId)
    (ho : o.op = .call { callee := .builtin .append, args := #[s, x], argTypes := #[t, t] })
    (base : Nat) (e : TypeId) (i : TypeInfo) (z : Value) (size bytes : Nat) (ht : P.underlying t = some (.slice e)) (hi : P.info? e = some i) (hz : i.zero = some z)
    (hsize : i.size = size) (hby : i.bytes = bytes) (hzs : z.cells.size = size) (hsz : 0 < size)
    (v : Value) (n : Nat) (xs : List Value) (hs : a.eval s = v) (hown : w.ownsRow base e size v n xs)
    (B : Nat) (A : Option Addr) (m c : Nat) (news : List Value) (hx : a.eval x = .slice A m c) (hr : Reads w B size A m news) (h1 : ∀ u ∈ news, u.oneCell' = true)
    (h63 : n + m ≤ maxLen) (hbytes : (n + m) * bytes ≤ 140737488355328) (hbase : base ≤ w.heap.size)
    (h : ∀ v' w', w'.ownsRow base e size v' (n + m) (xs ++ news) → w.grownBy w' v.ownBlock → (v'.ownBlock = v.ownBlock ∨ v'.ownBlock = some w.heap.size) → K (a.put o.dst v') w') : o.wp P a w K Q := by
  obtain ⟨v', w', hrun, h2, h3, h4⟩ := run_append_any (P := P) w base t o.type e i z size bytes ht hi hz hsize hby hzs hsz v n xs hown B A m c news hr h1 h63 hbytes hbase
  unfold Oper.wp execOp
  simp only [ho, resolve, invoke, builtin, Sem.run_bind, Sem.run_pure, Result.andThen_ok, List.map_toArray, List.map_cons, List.map_nil, hs, hx, hrun]
  exact h v' w' h2 h3 h4

theorem wpList_append_any {ops : Array Oper} {rest : List Oper} {o : Oper} {a : Act} {Q : Exit → Act → World → Prop} (hgd : o.guard = none) (s x : Operand) (t : TypeId)
    (ho : o.op = .call { callee := .builtin .append, args := #[s, x], argTypes := #[t, t] })
    (base : Nat) (e : TypeId) (i : TypeInfo) (z : Value) (size bytes : Nat) (ht : P.underlying t = some (.slice e)) (hi : P.info? e = some i) (hz : i.zero = some z)
    (hsize : i.size = size) (hby : i.bytes = bytes) (hzs : z.cells.size = size) (hsz : 0 < size)
    (v : Value) (n : Nat) (xs : List Value) (hs : a.eval s = v) (hown : w.ownsRow base e size v n xs)
    (B : Nat) (A : Option Addr) (m c : Nat) (news : List Value) (hx : a.eval x = .slice A m c) (hr : Reads w B size A m news) (h1 : ∀ u ∈ news, u.oneCell' = true)
    (h63 : n + m ≤ maxLen) (hbytes : (n + m) * bytes ≤ 140737488355328) (hbase : base ≤ w.heap.size)
    (h : ∀ v' w', w'.ownsRow base e size v' (n + m) (xs ++ news) → w.grownBy w' v.ownBlock → (v'.ownBlock = v.ownBlock ∨ v'.ownBlock = some w.heap.size) → wpList P ops Q rest (a.put o.dst v') w') : wpList P ops Q (o :: rest) a w :=
  wpList_plain hgd fun _ hK => wp_append_any w s x t ho base e i z size bytes ht hi hz hsize hby hzs hsz v n xs hs hown B A m c news hx hr h1 h63 hbytes hbase fun v' w' h2 h3 h4 => hK _ _ (h v' w' h2 h3 h4)

theorem step_append_any {ops : Array Oper} {o : Oper} {a : Act} {K : Act → World → Prop} {Q : Exit → Act → World → Prop} {E : Prop} (hgd : o.guard = none) (s x : Operand) (t : TypeId)
    (ho : o.op = .call { callee := .builtin .append, args := #[s, x], argTypes := #[t, t] })
    (base : Nat) (e : TypeId) (i : TypeInfo) (z : Value) (size bytes : Nat) (ht : P.underlying t = some (.slice e)) (hi : P.info? e = some i) (hz : i.zero = some z)
    (hsize : i.size = size) (hby : i.bytes = bytes) (hzs : z.cells.size = size) (hsz : 0 < size)
    (v : Value) (n : Nat) (xs : List Value) (hs : a.eval s = v) (hown : w.ownsRow base e size v n xs)
    (B : Nat) (A : Option Addr) (m c : Nat) (news : List Value) (hx : a.eval x = .slice A m c) (hr : Reads w B size A m news) (h1 : ∀ u ∈ news, u.oneCell' = true)
    (h63 : n + m ≤ maxLen) (hbytes : (n + m) * bytes ≤ 140737488355328) (hbase : base ≤ w.heap.size)
    (h : ∀ v' w', w'.ownsRow base e size v' (n + m) (xs ++ news) → w.grownBy w' v.ownBlock → (v'.ownBlock = v.ownBlock ∨ v'.ownBlock = some w.heap.size) → K (a.put o.dst v') w') :
    if Region.wanted o (yielded ops a.tmps) = true then Oper.wp P o a w K Q else E := by
  have hw : Region.wanted o (yielded ops a.tmps) = true := by simp [Region.wanted, hgd]
  rw [if_pos hw]
  exact wp_append_any w s x t ho base e i z size bytes ht hi hz hsize hby hzs hsz v n xs hs hown B A m c news hx hr h1 h63 hbytes hbase h
end

/-- The cells of n elements of sz cells each, one after the other. -/
def flat (n sz : Nat) (f : Nat → Nat → Value) : List Value := (List.range (n * sz)).map fun m => f (m / sz) (m % sz)
theorem flat_length (n sz : Nat) (f : Nat → Nat → Value) : (flat n sz f).length = n * sz := by simp [flat]
theorem idx_lt {i j n sz : Nat} (hi : i < n) (hj : j < sz) : i * sz + j < n * sz := by
  have h1 : (i + 1) * sz ≤ n * sz := Nat.mul_le_mul_right _ hi
  rw [Nat.succ_mul] at h1
  omega
theorem flat_get {n sz : Nat} {f : Nat → Nat → Value} {i j : Nat} (hi : i < n) (hj : j < sz) : (flat n sz f)[i * sz + j]? = some (f i j) := by
  have hlt := idx_lt hi hj
  have h1 : (i * sz + j) / sz = i := by
    rw [Nat.mul_comm, Nat.mul_add_div (by omega), Nat.div_eq_of_lt hj]; omega
  have h2 : (i * sz + j) % sz = j := by
    rw [Nat.mul_comm, Nat.mul_add_mod, Nat.mod_eq_of_lt hj]
  simp [flat, hlt, h1, h2]
theorem flat_inv {n sz : Nat} {f : Nat → Nat → Value} {m : Nat} {u : Value} (hsz : 0 < sz) (h : (flat n sz f)[m]? = some u) : ∃ i j, i < n ∧ j < sz ∧ m = i * sz + j ∧ u = f i j := by
  have hm : m < n * sz := by
    have := (List.getElem?_eq_some_iff.1 h).1
    rwa [flat_length] at this
  have hi : m / sz < n := by rw [Nat.div_lt_iff_lt_mul hsz]; exact hm
  have hj : m % sz < sz := Nat.mod_lt _ hsz
  refine ⟨m / sz, m % sz, hi, hj, by rw [Nat.mul_comm]; exact (Nat.div_add_mod m sz).symm, ?_⟩
  have h2 := flat_get (f := f) hi hj
  rw [show m / sz * sz + m % sz = m by rw [Nat.mul_comm]; exact Nat.div_add_mod m sz, h] at h2
  injection h2
theorem Sl.reads {w : World} {B sz n cap : Nat} {A : Option Addr} {f : Nat → Nat → Value} (h : Sl w B sz (.slice A n cap) n f) (hsz : 0 < sz) : Reads w B sz A n (flat n sz f) := by
  obtain ⟨A', b, off, cap', hv, hn, hA, hc⟩ := h
  injection hv with hv1 hv2 hv3
  subst hv1
  refine ⟨flat_length _ _ _, fun h0 => ?_⟩
  rcases hA with ⟨rfl, hb⟩ | hz
  · refine ⟨_, rfl, hb, fun m u hu => ?_⟩
    obtain ⟨i, j, hi, hj, rfl, rfl⟩ := flat_inv hsz hu
    have := hc i j hi hj
    unfold Addr.add
    split
    · rename_i h1
      rw [h1] at this
      simpa using this
    · exact this
  · omega
theorem Sl.of_owns {w : World} {base e sz n : Nat} {v : Value} {xs : List Value} {f : Nat → Nat → Value} (h : w.ownsRow base e sz v n xs) (hx : ∀ i j, i < n → j < sz → xs[i * sz + j]? = some (f i j)) : Sl w w.heap.size sz v n f := by
  have hlt := h.lt
  obtain ⟨hl, ⟨rfl, rfl⟩ | ⟨g, cap, cur, rfl, hb, hg, hnc, hcm, hcs, htake⟩⟩ := h
  · exact Sl.nil _ _ _ _
  · refine ⟨some ⟨g, 0, none⟩, g, 0, cap, rfl, hnc, .inl ⟨rfl, (hlt g (by simp [Value.ownBlock])).2⟩, fun i j hi hj => ?_⟩
    have h1 := hx i j hi hj
    rw [← htake] at h1
    have h2 : cur[i * sz + j]? = some (f i j) := by
      rw [List.getElem?_take] at h1
      split at h1
      · rwa [Array.getElem?_toList] at h1
      · cases h1
    rw [Nat.zero_add]
    simp [World.cell?, hg, h2]
end Go.Proofs.Ytmabfnddedffoaa
/- Regions that draw their order where several operations make memory: a law by what each operation leaves, whatever comes up first. No condition. -/
namespace Go.Proofs.Ytmabfnddedffoaa
open Go.RowKit

/-- The frame with the values tv in the slots of the operations js. -/
def putAll (a : Act) (dst : Nat → Tmp) (tv : Nat → Value) : List Nat → Act
  | [] => a
  | j :: r => putAll (a.put (some (dst j)) (tv j)) dst tv r
def updV (tv : Nat → Value) (j : Nat) (v : Value) : Nat → Value := fun k => if k = j then v else tv k
theorem updV_self (tv : Nat → Value) (j : Nat) (v : Value) : updV tv j v j = v := by simp [updV]
theorem updV_ne (tv : Nat → Value) {j k : Nat} (v : Value) (h : k ≠ j) : updV tv j v k = tv k := by simp [updV, h]
theorem putAll_congr (dst : Nat → Tmp) {tv tv' : Nat → Value} : ∀ (J : List Nat) (a : Act), (∀ j ∈ J, tv j = tv' j) → putAll a dst tv J = putAll a dst tv' J
  | [], _, _ => rfl
  | j :: r, a, h => by
    unfold putAll
    rw [h j (List.mem_cons_self ..)]
    exact putAll_congr dst r _ fun k hk => h k (List.mem_cons_of_mem _ hk)
theorem putAll_out (dst : Nat → Tmp) (tv : Nat → Value) (t : Tmp) (v : Value) : ∀ (J : List Nat) (a : Act), (∀ j ∈ J, dst j ≠ t) → (putAll a dst tv J).put (some t) v = putAll (a.put (some t) v) dst tv J
  | [], _, _ => rfl
  | j :: r, a, h => by
    unfold putAll
    rw [putAll_out dst tv t v r _ fun k hk => h k (List.mem_cons_of_mem _ hk)]
    rw [Act.put_comm a (tv j) v (fun d hd => by
      injection hd with hd
      intro he
      injection he with he
      exact h j (List.mem_cons_self ..) (by rw [hd, he]))]
theorem put_put (a : Act) (t : Tmp) (u v : Value) : (a.put (some t) u).put (some t) v = a.put (some t) v := by
  simp [Act.put]
theorem putAll_put (dst : Nat → Tmp) (tv : Nat → Value) (j : Nat) (v : Value) : ∀ (J : List Nat) (a : Act), j ∈ J → J.Nodup → (∀ x ∈ J, ∀ y ∈ J, dst x = dst y → x = y) → (putAll a dst tv J).put (some (dst j)) v = putAll a dst (updV tv j v) J
  | [], _, h, _, _ => by cases h
  | k :: r, a, h, hn, hd => by
    obtain ⟨hk, hr⟩ := List.nodup_cons.1 hn
    by_cases e : j = k
    · subst e
      show (putAll (a.put (some (dst j)) (tv j)) dst tv r).put (some (dst j)) v = putAll (a.put (some (dst j)) (updV tv j v j)) dst (updV tv j v) r
      rw [putAll_out dst tv (dst j) v r _ (fun x hx he => hk (by rw [← hd x (List.mem_cons_of_mem _ hx) j (List.mem_cons_self ..) he]; exact hx)), put_put, updV_self]
      exact putAll_congr dst r _ fun x hx => (updV_ne tv v (fun hxj => hk (by rw [← hxj]; exact hx))).symm
    · have hm : j ∈ r := by
        rcases List.mem_cons.1 h with h | h
        · exact absurd h e
        · exact h
      show (putAll (a.put (some (dst k)) (tv k)) dst tv r).put (some (dst j)) v = putAll (a.put (some (dst k)) (updV tv j v k)) dst (updV tv j v) r
      rw [updV_ne tv v (fun hkj => e hkj.symm)]
      exact putAll_put dst tv j v r _ hm hr fun x hx y hy => hd x (List.mem_cons_of_mem _ hx) y (List.mem_cons_of_mem _ hy)

/-- What the law asks of the region's text: each operation of J waits only for earlier ones, of J or listed already; each other operation that is left waits for all of J. -/
def freeOk (md : Region.Mode) (ops : Array Oper) (listed : Array Bool) (J : List Nat) : Bool :=
  J.all (fun j => !listed.getD j true && ((ops[j]?).map (fun o => o.after.all fun e => !Region.binds md e || (decide (e.on < j) && (listed.getD e.on false || J.contains e.on)))).getD false) &&
  (List.range ops.size).all (fun k => listed.getD k true || J.contains k || ((ops[k]?).map (fun o => J.all fun j => o.after.any fun e => Region.binds md e && e.on == j)).getD false)
def listAll (listed : Array Bool) : List Nat → Array Bool
  | [] => listed
  | j :: r => listAll (listed.setIfInBounds j true) r
theorem listAll_size : ∀ (J : List Nat) (l : Array Bool), (listAll l J).size = l.size
  | [], _ => rfl
  | j :: r, l => by unfold listAll; rw [listAll_size r]; simp
theorem listAll_get : ∀ (J : List Nat) (l : Array Bool) (k : Nat), k < l.size → (listAll l J)[k]? = some (l.getD k false || J.contains k)
  | [], l, k, h => by simp [listAll, h]
  | j :: r, l, k, h => by
    unfold listAll
    rw [listAll_get r _ k (by simpa using h)]
    by_cases e : j = k
    · subst e; simp [h]
    · have : (k == j) = false := by simpa using fun h => e h.symm
      rw [getD_set_ne false e]
      simp only [List.contains_cons, this, Bool.false_or]

section
variable {P : Program} {ops : Array Oper} {Q : Exit → Act → World → Prop} {md : Region.Mode} {S : World → Prop}

theorem wpAnyH_free (J : List Nat) (dst : Nat → Tmp) (R : Nat → Value → World → Prop) (listed0 : Array Bool) (a0 : Act) (fe : Nat)
    (hok : freeOk md ops listed0 J = true) (hsz : listed0.size = ops.size) (hnd : J.Nodup) (hdst : ∀ x ∈ J, ∀ y ∈ J, dst x = dst y → x = y)
    (hkeep : ∀ j ∈ J, ∀ v w w', Below w.heap.size w w' → R j v w → R j v w')
    (hstep : ∀ j ∈ J, ∀ (tv : Nat → Value) (w : World), S w → (∀ o, ops[j]? = some o → ∀ e ∈ o.after, Region.binds md e = true → e.on ∈ J → R e.on (tv e.on) w) →
      wpOp P ops Q j (fun a' w' => (∃ v, a' = (putAll a0 dst tv J).put (some (dst j)) v ∧ R j v w') ∧ Below w.heap.size w w' ∧ S w') (putAll a0 dst tv J) w)
    (hend : ∀ (tv : Nat → Value) (w : World), S w → (∀ j ∈ J, R j (tv j) w) → wpAnyH P md ops Q S fe (listAll listed0 J) (putAll a0 dst tv J) w) :
    ∀ (m : Nat) (listed : Array Bool) (tv : Nat → Value) (w : World), (J.filter fun j => !listed.getD j true).length = m → listed.size = ops.size →
      (∀ k, k ∉ J → listed[k]? = listed0[k]?) → S w → (∀ j ∈ J, listed.getD j true = true → R j (tv j) w) → wpAnyH P md ops Q S (m + fe) listed (putAll a0 dst tv J) w := by
  have hok' := hok
  unfold freeOk at hok'
  rw [Bool.and_eq_true, List.all_eq_true, List.all_eq_true] at hok'
  obtain ⟨hJ, hrest⟩ := hok'
  have hlt : ∀ j ∈ J, j < ops.size := fun j hj => by
    have := hJ j hj
    rcases Nat.lt_or_ge j ops.size with h | h
    · exact h
    · simp [Array.getElem?_eq_none h] at this
  intro m
  induction m with
  | zero =>
    intro listed tv w hm hls hout hS hR
    have hall : ∀ j ∈ J, listed.getD j true = true := fun j hj => by
      have h0 : J.filter (fun j => !listed.getD j true) = [] := List.eq_nil_of_length_eq_zero hm
      rw [List.filter_eq_nil_iff] at h0
      simpa using h0 j hj
    have he : listed = listAll listed0 J := by
      apply Array.ext_getElem?
      intro k
      rcases Nat.lt_or_ge k listed.size with h | h
      · rw [listAll_get J listed0 k (by omega)]
        by_cases hk : k ∈ J
        · have := hall k hk
          simp [h] at this
          simp [h, this, hk]
        · rw [hout k hk]
          have h2 : k < listed0.size := by omega
          simp [h2, hk]
      · rw [Array.getElem?_eq_none h, Array.getElem?_eq_none (by rw [listAll_size]; omega)]
    rw [Nat.zero_add, he]
    exact hend tv w hS fun j hj => hR j hj (hall j hj)
  | succ m ih =>
    intro listed tv w hm hls hout hS hR
    rw [show m + 1 + fe = (m + fe) + 1 by omega]
    have hready : ∀ i ∈ Region.ready md ops listed, i ∈ J := by
      intro i hi
      obtain ⟨h0, o, ho, hd⟩ := mem_ready.1 hi
      have hio : i < ops.size := (Array.getElem?_eq_some_iff.1 ho).1
      have h1 := hrest i (by simpa using hio)
      by_cases hiJ : i ∈ J
      · exact hiJ
      · exfalso
        have hi0 : listed0.getD i true = false := by
          have : listed0[i]? = listed[i]? := (hout i hiJ).symm
          simp only [Array.getD_eq_getD_getElem?, this] at h0 ⊢
          exact h0
        rw [hi0] at h1
        simp [hiJ, ho] at h1
        have h2 : ∀ j ∈ J, listed.getD j false = true := fun j hj => by
          obtain ⟨n, hn, hb, hon⟩ := h1 j hj
          have := hd _ (Array.getElem_mem hn) hb
          rw [hon] at this
          exact this
        have h3 : J.filter (fun j => !listed.getD j true) = [] := by
          rw [List.filter_eq_nil_iff]
          intro j hj
          have h4 := h2 j hj
          have h5 : j < listed.size := by have := hlt j hj; omega
          simp [h5] at h4
          simp [h5, h4]
        rw [h3] at hm
        simp at hm
    refine ⟨fun hno => ?_, fun i hi => ?_⟩
    · exfalso
      have hex : ∃ j, j ∈ J ∧ listed.getD j true = false := by
        rcases hf : J.filter (fun j => !listed.getD j true) with _ | ⟨j, r⟩
        · rw [hf] at hm; simp at hm
        · have : j ∈ J.filter (fun j => !listed.getD j true) := by rw [hf]; exact List.mem_cons_self ..
          rw [List.mem_filter] at this
          exact ⟨j, this.1, by simpa using this.2⟩
      have hmin : ∀ n j, j ∈ J → listed.getD j true = false → j ≤ n → False := by
        intro n
        induction n with
        | zero =>
          intro j hj hl hn
          have hjJ := hJ j hj
          obtain ⟨o, ho⟩ : ∃ o, ops[j]? = some o := ⟨_, Array.getElem?_eq_getElem (hlt j hj)⟩
          have : j ∈ Region.ready md ops listed := mem_ready.2 ⟨hl, o, ho, fun e he hb => by
            simp only [ho, Option.map_some, Option.getD_some, Bool.and_eq_true, Array.all_eq_true_iff_forall_mem] at hjJ
            have := hjJ.2 e he
            simp [hb] at this
            omega⟩
          rw [hno] at this
          cases this
        | succ n ihn =>
          intro j hj hl hn
          have hjJ := hJ j hj
          obtain ⟨o, ho⟩ : ∃ o, ops[j]? = some o := ⟨_, Array.getElem?_eq_getElem (hlt j hj)⟩
          have : j ∈ Region.ready md ops listed := mem_ready.2 ⟨hl, o, ho, fun e he hb => by
            simp only [ho, Option.map_some, Option.getD_some, Bool.and_eq_true, Array.all_eq_true_iff_forall_mem] at hjJ
            have h6 := hjJ.2 e he
            rw [hb] at h6
            simp only [Bool.not_true, Bool.false_or, Bool.and_eq_true, decide_eq_true_eq, Bool.or_eq_true] at h6
            obtain ⟨h7, h8⟩ := h6
            have hes : e.on < listed.size := by have := hlt j hj; omega
            by_cases hJe : e.on ∈ J
            · cases hg : listed.getD e.on true with
              | true =>
                simp [hes] at hg ⊢
                exact hg
              | false => exact absurd (ihn e.on hJe hg (by omega)) id
            · rcases h8 with h8 | h8
              · have : listed0[e.on]? = listed[e.on]? := (hout _ hJe).symm
                simp only [Array.getD_eq_getD_getElem?, this] at h8 ⊢
                exact h8
              · exact absurd (by simpa using h8) hJe⟩
          rw [hno] at this
          cases this
      obtain ⟨j, hj, hl⟩ := hex
      exact hmin j j hj hl (Nat.le_refl _)
    · have hiJ := hready i hi
      obtain ⟨h0, o, ho, hd⟩ := mem_ready.1 hi
      have hil : i < listed.size := by have := hlt i hiJ; omega
      refine wpOp_mono ?_ (hstep i hiJ tv w hS (fun o' ho' e he hb hon => hR e.on hon (by
        rw [ho] at ho'
        injection ho' with ho'
        subst ho'
        have h9 := hd e he hb
        have h10 : e.on < listed.size := by have := hlt _ hon; omega
        simp [h10] at h9 ⊢
        exact h9)))
      rintro a' w' ⟨⟨v, rfl, hv⟩, hB, hS'⟩
      refine ⟨hS', ?_⟩
      rw [putAll_put dst tv i v J a0 hiJ hnd hdst]
      refine ih (listed.setIfInBounds i true) (updV tv i v) w' ?_ (by simpa using hls) ?_ hS' ?_
      · have hcount : ∀ L : List Nat, L.Nodup → i ∈ L → (L.filter fun j => !listed.getD j true).length = (L.filter fun j => !(listed.setIfInBounds i true).getD j true).length + 1 := by
          intro L
          induction L with
          | nil => intro _ h; cases h
          | cons x r ihr =>
            intro hn hx
            obtain ⟨hx1, hx2⟩ := List.nodup_cons.1 hn
            by_cases e : i = x
            · subst e
              have hsame : r.filter (fun j => !(listed.setIfInBounds i true).getD j true) = r.filter (fun j => !listed.getD j true) := by
                apply List.filter_congr
                intro y hy
                rw [getD_set_ne true (fun h => hx1 (by rw [h]; exact hy))]
              have hset : (listed.setIfInBounds i true).getD i true = true := by simp [hil]
              rw [List.filter_cons, List.filter_cons, h0, hset, hsame]
              simp
            · have hxr : i ∈ r := by
                rcases List.mem_cons.1 hx with h | h
                · exact absurd h e
                · exact h
              have := ihr hx2 hxr
              rw [List.filter_cons, List.filter_cons, getD_set_ne true e]
              cases listed.getD x true with
              | true => exact this
              | false =>
                show (x :: _).length = (x :: _).length + 1
                rw [List.length_cons, List.length_cons, this]
        have := hcount J hnd hiJ
        omega
      · intro k hk
        rw [← hout k hk]
        exact Array.getElem?_setIfInBounds_ne (fun h => hk (by rw [← h]; exact hiJ))
      · intro j hj hl
        by_cases e : j = i
        · subst e
          rw [updV_self]
          exact hv
        · rw [updV_ne tv v e]
          refine hkeep j hj _ _ _ hB (hR j hj ?_)
          rw [getD_set_ne true (fun h => e h.symm)] at hl
          exact hl

/-- Operation j waits for operation k. -/
def waitsFor (md : Region.Mode) (ops : Array Oper) (j k : Nat) : Bool := ((ops[j]?).map (fun o => o.after.any fun e => Region.binds md e && e.on == k)).getD false
theorem putAll_self (a : Act) (dst : Nat → Tmp) (tv : Nat → Value) : ∀ (J : List Nat), (∀ j ∈ J, dst j < a.tmps.size ∧ tv j = a.tmps.getD (dst j) undef) → putAll a dst tv J = a
  | [], _ => rfl
  | j :: r, h => by
    obtain ⟨h1, h2⟩ := h j (List.mem_cons_self ..)
    unfold putAll
    rw [show a.put (some (dst j)) (tv j) = a by
      rw [h2]
      unfold Act.put
      show { a with tmps := a.tmps.setIfInBounds (dst j) (a.tmps.getD (dst j) undef) } = a
      have : a.tmps.setIfInBounds (dst j) (a.tmps.getD (dst j) undef) = a.tmps := by
        apply Array.ext_getElem?
        intro k
        by_cases e : dst j = k
        · subst e; simp [h1]
        · rw [Array.getElem?_setIfInBounds_ne e]
      rw [this]]
    exact putAll_self a dst tv r fun k hk => h k (List.mem_cons_of_mem _ hk)

/-- The law, from the frame as it stands. -/
theorem wpAnyH_start {fuel : Nat} {listed0 : Array Bool} {a0 : Act} {w0 : World} (J : List Nat) (dst : Nat → Tmp) (R : Nat → Value → World → Prop) (fe : Nat) (hf : fuel = J.length + fe)
    (hok : freeOk md ops listed0 J = true) (hsz : listed0.size = ops.size) (hnd : J.Nodup) (hdst : ∀ x ∈ J, ∀ y ∈ J, dst x = dst y → x = y) (hlt : (J.all fun j => decide (dst j < a0.tmps.size)) = true) (hS0 : S w0)
    (hkeep : ∀ j ∈ J, ∀ v w w', Below w.heap.size w w' → R j v w → R j v w')
    (hstep : ∀ j ∈ J, ∀ (tv : Nat → Value) (w : World), S w → (∀ k ∈ J, waitsFor md ops j k = true → R k (tv k) w) →
      wpOp P ops Q j (fun a' w' => (∃ v, a' = (putAll a0 dst tv J).put (some (dst j)) v ∧ R j v w') ∧ Below w.heap.size w w' ∧ S w') (putAll a0 dst tv J) w)
    (hend : ∀ (tv : Nat → Value) (w : World), S w → (∀ j ∈ J, R j (tv j) w) → wpAnyH P md ops Q S fe (listAll listed0 J) (putAll a0 dst tv J) w) : wpAnyH P md ops Q S fuel listed0 a0 w0 := by
  subst hf
  have hun : ∀ j ∈ J, listed0.getD j true = false := fun j hj => by
    have h := hok
    unfold freeOk at h
    rw [Bool.and_eq_true, List.all_eq_true] at h
    have := h.1 j hj
    rw [Bool.and_eq_true] at this
    simpa using this.1
  have hme := putAll_self a0 dst (fun j => a0.tmps.getD (dst j) undef) J fun j hj => ⟨by
    rw [List.all_eq_true] at hlt
    simpa using hlt j hj, rfl⟩
  have hcount : (J.filter fun j => !listed0.getD j true).length = J.length := by
    rw [List.filter_eq_self.2]
    intro j hj
    rw [hun j hj]
    rfl
  have := wpAnyH_free J dst R listed0 a0 fe hok hsz hnd hdst hkeep (fun j hj tv w hS hd => hstep j hj tv w hS fun k hk hw => by
      unfold waitsFor at hw
      cases ho : ops[j]? with
      | none => rw [ho] at hw; cases hw
      | some o =>
        rw [ho] at hw
        simp only [Option.map_some, Option.getD_some, Array.any_eq_true] at hw
        obtain ⟨n, hn, hb⟩ := hw
        rw [Bool.and_eq_true, beq_iff_eq] at hb
        have h2 := hd o ho _ (Array.getElem_mem hn) hb.1 (by rw [hb.2]; exact hk)
        rw [hb.2] at h2
        exact h2) hend J.length listed0 (fun j => a0.tmps.getD (dst j) undef) w0 hcount hsz (fun _ _ => rfl) hS0 (fun j hj hl => by rw [hun j hj] at hl; cases hl)
  rw [hme] at this
  exact this
end
end Go.Proofs.Ytmabfnddedffoaa
/- An append onto a slice without room that was just made: the new slice lies in new memory, and nothing that was there has changed. No condition. -/
namespace Go.Proofs.Ytmabfnddedffoaa
open Go.RowKit

section
variable {P : Program} (w : World)
theorem run_append_fresh (base : Nat) (t ty e : TypeId) (i : TypeInfo) (z : Value) (size bytes : Nat) (ht : P.underlying t = some (.slice e)) (hi : P.info? e = some i) (hz : i.zero = some z)
    (hsize : i.size = size) (hby : i.bytes = bytes) (hzs : z.cells.size = size) (hsz : 0 < size)
    (g : Nat) (hown : w.ownsRow base e size (.slice (some ⟨g, 0, none⟩) 0 0) 0 [])
    (B : Nat) (A : Option Addr) (m c : Nat) (news : List Value) (hr : Reads w B size A m news) (h1 : ∀ u ∈ news, u.oneCell' = true)
    (h63 : m ≤ maxLen) (hbytes : m * bytes ≤ 140737488355328) (hbase : base ≤ w.heap.size) :
    ∃ v' w', (Builtin.append_ #[t, t] ty #[.slice (some ⟨g, 0, none⟩) 0 0, .slice A m c]).run P w = .ok v' w' ∧ w'.ownsRow base e size v' m news ∧ Below w.heap.size w w' := by
  have hsmall : m ≤ 9223372036854775807 := by simp only [maxLen] at h63; omega
  rcases Nat.eq_zero_or_pos m with h0 | h0
  · subst h0
    have hn : news = [] := List.eq_nil_of_length_eq_zero (by simpa using hr.1)
    subst hn
    refine ⟨_, w, ?_, hown, Below.refl _ _⟩
    cases A <;> simp [Builtin.append_, run_underlying ht, sizeOf, typeInfo, hi, Builtin.lenOf, Builtin.firstCells, loadCells, loadCellsFrom, storeCells]
  · obtain ⟨ad, hA, _, hcells⟩ := hr.2 h0
    subst hA
    obtain ⟨v', w', hrun, hown', _⟩ := run_append_own_at (P := P) w base t ty e i z size bytes ht hi hz hsize hby hzs hsz _ 0 [] hown ad m c news hr.1 hcells h1 (by omega) (by simpa using hbytes) hbase
    subst hsize
    subst hby
    have hg := run_append_grow (P := P) w t ty e i z ht hi hz ⟨g, 0, none⟩ 0 0 [] (by simp) (by simp) ad m c news hr.1 hcells (by omega) (by omega) (growslice_fits (by omega) (by simpa using hbytes))
    rw [hrun] at hg
    injection hg with hv hw
    refine ⟨v', w', hrun, by simpa using hown', ?_⟩
    rw [hw]
    exact Below.allocT (Below.drew (Below.refl _ _)) (Nat.le_refl _) _

theorem step_append_fresh {ops : Array Oper} {o : Oper} {a : Act} {K : Act → World → Prop} {Q : Exit → Act → World → Prop} {E : Prop} (hgd : o.guard = none) (s x : Operand) (t : TypeId)
    (ho : o.op = .call { callee := .builtin .append, args := #[s, x], argTypes := #[t, t] })
    (base : Nat) (e : TypeId) (i : TypeInfo) (z : Value) (size bytes : Nat) (ht : P.underlying t = some (.slice e)) (hi : P.info? e = some i) (hz : i.zero = some z)
    (hsize : i.size = size) (hby : i.bytes = bytes) (hzs : z.cells.size = size) (hsz : 0 < size)
    (g : Nat) (hs : a.eval s = .slice (some ⟨g, 0, none⟩) 0 0) (hown : w.ownsRow base e size (.slice (some ⟨g, 0, none⟩) 0 0) 0 [])
    (B : Nat) (A : Option Addr) (m c : Nat) (news : List Value) (hx : a.eval x = .slice A m c) (hr : Reads w B size A m news) (h1 : ∀ u ∈ news, u.oneCell' = true)
    (h63 : m ≤ maxLen) (hbytes : m * bytes ≤ 140737488355328) (hbase : base ≤ w.heap.size)
    (h : ∀ v' w', w'.ownsRow base e size v' m news → Below w.heap.size w w' → K (a.put o.dst v') w') :
    if Region.wanted o (yielded ops a.tmps) = true then Oper.wp P o a w K Q else E := by
  have hw : Region.wanted o (yielded ops a.tmps) = true := by simp [Region.wanted, hgd]
  rw [if_pos hw]
  obtain ⟨v', w', hrun, h2, h3⟩ := run_append_fresh (P := P) w base t o.type e i z size bytes ht hi hz hsize hby hzs hsz g hown B A m c news hr h1 h63 hbytes hbase
  unfold Oper.wp execOp
  simp only [ho, resolve, invoke, builtin, Sem.run_bind, Sem.run_pure, Result.andThen_ok, List.map_toArray, List.map_cons, List.map_nil, hs, hx, hrun]
  exact h v' w' h2 h3
end
theorem owns_below {w w' : World} {base e size n : Nat} {v : Value} {xs : List Value} (h : w.ownsRow base e size v n xs) (hb : Below w.heap.size w w') : w'.ownsRow base e size v n xs := by
  obtain ⟨h1, h2 | ⟨g, cap, cur, h3, h4, h5, h6⟩⟩ := h
  · exact ⟨h1, .inl h2⟩
  · exact ⟨h1, .inr ⟨g, cap, cur, h3, h4, (hb.block g (Array.getElem?_eq_some_iff.1 h5).1).trans h5, h6⟩⟩
theorem heap_below {w w' : World} {g : Nat} {o : Obj} (h : w.heap[g]? = some o) (hb : Below w.heap.size w w') : w'.heap[g]? = some o :=
  (hb.block g (Array.getElem?_eq_some_iff.1 h).1).trans h
theorem owns_base {w : World} {base base' e size n : Nat} {v : Value} {xs : List Value} (h : w.ownsRow base e size v n xs) (hb : base' ≤ base) : w.ownsRow base' e size v n xs := by
  obtain ⟨h1, h2 | ⟨g, cap, cur, h3, h4, h5⟩⟩ := h
  · exact ⟨h1, .inl h2⟩
  · exact ⟨h1, .inr ⟨g, cap, cur, h3, Nat.le_trans hb h4, h5⟩⟩
theorem grown_of_below {w w' : World} {row : Option Nat} (h : Below w.heap.size w w') : w.grownBy w' row := ⟨h.os, h.tape, h.output, h.size, fun k hk _ => h.block k hk⟩
theorem owns_grown {w w' : World} {base e size n g t : Nat} {C : Array Value} {v : Value} {xs : List Value} (h : w.ownsRow base e size v n xs) (hg : w.grownBy w' (some g)) (ht : w.heap[g]? = some (.cells C t (0, 0))) (hne : e ≠ t) : w'.ownsRow base e size v n xs := by
  obtain ⟨h1, h2 | ⟨b, cap, cur, h3, h4, h5, h6⟩⟩ := h
  · exact ⟨h1, .inl h2⟩
  · exact ⟨h1, .inr ⟨b, cap, cur, h3, h4, (hg.block b (Array.getElem?_eq_some_iff.1 h5).1 (fun e' => by
      injection e' with e'
      subst e'
      rw [h5] at ht
      injection ht with ht
      injection ht with _ ht
      exact hne ht)).trans h5, h6⟩⟩
theorem alloc2 {w w0 : World} {o p : Obj} (h : (w.alloc o).alloc p = w0) : w0.heap[w.heap.size]? = some o ∧ w0.heap[w.heap.size + 1]? = some p ∧ Below w.heap.size w w0 ∧ w0.heap.size = w.heap.size + 2 := by
  subst h
  refine ⟨?_, ?_, Below.allocT (Below.allocT (Below.refl _ _) (Nat.le_refl _) _) (Nat.le_refl _) _, by simp⟩
  · rw [show ((w.alloc o).alloc p).heap[w.heap.size]? = (w.alloc o).heap[w.heap.size]? from Below.heap_alloc _ _ _ (by simp)]
    exact heap_alloc_new w o
  · have := heap_alloc_new (w.alloc o) p
    simpa using this
end Go.Proofs.Ytmabfnddedffoaa
/- Blocks of memory: small laws. (For seats without the texts on wires.) -/
namespace Go.Proofs.Ytmabfnddedffoaa
open Go.RowKit
theorem heap_new (w : World) (o : Obj) (k : Nat) (hk : k = w.heap.size) : (w.alloc o).heap[k]? = some o := by subst hk; exact World.alloc_heap_new w o
theorem heap_old (w : World) (o : Obj) (k : Nat) (hk : k < w.heap.size) : (w.alloc o).heap[k]? = w.heap[k]? := Below.heap_alloc w o k hk
theorem box_lt {w : World} {k : Nat} {o : Obj} (h : w.heap[k]? = some o) : k < w.heap.size := (Array.getElem?_eq_some_iff.1 h).1
theorem box_to {w w1 : World} {k : Nat} {o : Obj} (h : w.heap[k]? = some o) (hB : Below w.heap.size w w1) : w1.heap[k]? = some o := (hB.block _ (box_lt h)).trans h
theorem cellOf {w : World} {g : Nat} {cs : Array Value} {t : TypeId} {fr : Nat × Nat} (h : w.heap[g]? = some (.cells cs t fr)) (i : Nat) : w.cell? ⟨g, i, none⟩ = cs[i]? := by simp [World.cell?, h]
theorem unfrozenOf {w : World} {g : Nat} {cs : Array Value} {t : TypeId} (h : w.heap[g]? = some (.cells cs t (0, 0))) (i : Nat) : w.frozen? ⟨g, i, none⟩ = false := by simp [World.frozen?, h]
theorem setCellOf {w : World} {g i : Nat} {cs : Array Value} {t : TypeId} {fr : Nat × Nat} (h : w.heap[g]? = some (.cells cs t fr)) (v : Value) : (w.setCell ⟨g, i, none⟩ v).heap[g]? = some (.cells (cs.setIfInBounds i v) t fr) := by
  simp [World.setCell, Array.getElem?_modify, h]
theorem alloc1 {w w0 : World} {o : Obj} (h : w.alloc o = w0) : w0.heap[w.heap.size]? = some o ∧ Below w.heap.size w w0 ∧ w0.heap.size = w.heap.size + 1 := by
  subst h
  exact ⟨heap_new _ _ _ rfl, (Below.refl _ _).alloc (Nat.le_refl _) _, by simp⟩
theorem alloc4 {w w0 : World} {o p q r : Obj} (h : (((w.alloc o).alloc p).alloc q).alloc r = w0) : w0.heap[w.heap.size]? = some o ∧ w0.heap[w.heap.size + 1]? = some p ∧ w0.heap[w.heap.size + 2]? = some q ∧ w0.heap[w.heap.size + 3]? = some r ∧ Below w.heap.size w w0 ∧ w0.heap.size = w.heap.size + 4 := by
  subst h
  refine ⟨?_, ?_, ?_, ?_, Below.allocT (Below.allocT (Below.allocT (Below.allocT (Below.refl _ _) (Nat.le_refl _) _) (Nat.le_refl _) _) (Nat.le_refl _) _) (Nat.le_refl _) _, by simp⟩
  · rw [heap_old _ _ _ (by simp <;> omega), heap_old _ _ _ (by simp <;> omega), heap_old _ _ _ (by simp), heap_new _ _ _ rfl]
  · rw [heap_old _ _ _ (by simp <;> omega), heap_old _ _ _ (by simp), heap_new _ _ _ (by simp)]
  · rw [heap_old _ _ _ (by simp), heap_new _ _ _ (by simp)]
  · rw [heap_new _ _ _ (by simp)]
end Go.Proofs.Ytmabfnddedffoaa
/- The forest of diagrams in memory: its words, and how they are carried. -/
namespace Go.Proofs.Ytmabfnddedffoaa
open Go.RowKit
open Go.Maps (Keyed)
set_option linter.unusedVariables false

theorem infoKn : (Try.prog.info? 196).map (fun i => (i.zero, i.size, i.bytes)) = some (some (.agg #[.int .i64 0, .int .i64 0, .int .i64 0]), 3, 24) := by kernel_rfl
def I63 (x : Int) : Prop := -9223372036854775808 ≤ x ∧ x ≤ 9223372036854775807
theorem wf63 {x : Int} (h : I63 x) : (Lit.int .i64 x).wf = true := WalkArith.wf_i64 h
def knV (k : Kn) : Value := .agg #[.int .i64 k.opt, .int .i64 k.low, .int .i64 k.high]
theorem knV_inj (a b : Kn) (h : knV a = knV b) : a = b := by
  unfold knV at h
  injection h with h
  injection h with h
  injection h with h1 h
  injection h with h2 h
  injection h with h3 h
  injection h1 with _ h1
  injection h2 with _ h2
  injection h3 with _ h3
  exact Kn.ext' (by omega) (by omega) (by omega)
/-- A pair of nodes with an operator, as a key. -/
def paV (p : Int × Nat × Nat) : Value := .agg #[.int .i64 p.1, .int .i64 p.2.1, .int .i64 p.2.2]
theorem paV_inj (a b : Int × Nat × Nat) (h : paV a = paV b) : a = b := by
  unfold paV at h
  injection h with h
  injection h with h
  injection h with h1 h
  injection h with h2 h
  injection h with h3 h
  injection h1 with _ h1
  injection h2 with _ h2
  injection h3 with _ h3
  obtain ⟨a1, a2, a3⟩ := a
  obtain ⟨b1, b2, b3⟩ := b
  simp only at h1 h2 h3
  obtain rfl : a2 = b2 := by omega
  obtain rfl : a3 = b3 := by omega
  rw [h1]
theorem key3 {k : Nat} (h1 : Try.prog.keyType k = true) (h2 : ∀ a b c, (Value.agg #[.int .i64 a, .int .i64 b, .int .i64 c]).formed Try.prog k = true) (h4 : Try.prog.cellsOf k = 3) {n0 n1 n2 p0 p1 p2 q0 q1 q2 : String} {o0 o1 o2 : Nat}
    (hk : Try.prog.underlying k = some (.struct #[{ name := n0, type := 3, offset := 0, embedded := false, tag := q0, pkgPath := p0, byteOffset := o0 }, { name := n1, type := 3, offset := 1, embedded := false, tag := q1, pkgPath := p1, byteOffset := o1 }, { name := n2, type := 3, offset := 2, embedded := false, tag := q2, pkgPath := p2, byteOffset := o2 }]))
    (m0 : n0 ≠ "_") (m1 : n1 ≠ "_") (m2 : n2 ≠ "_") {a b c : Int} (ha : I63 a) (hb : I63 b) (hc : I63 c) : ∃ l, keyOf Try.prog k (.agg #[.int .i64 a, .int .i64 b, .int .i64 c]) = some l := by
  obtain ⟨d, hd⟩ : ∃ d, Try.prog.types.size = d + 2 := ⟨Try.prog.types.size - 2, by kernel_rfl⟩
  have h5 : Try.prog.cellsOf 3 = 1 := by kernel_rfl
  unfold keyOf
  rw [hk]
  simp only [h1, h2, Bool.and_self, if_true]
  rw [show Try.prog.types.size + 1 = d + 1 + 1 + 1 by omega]
  simp [Program.keyLits, hk, Try.underlying3, h4, h5, wf63 ha, wf63 hb, wf63 hc, Value.cells, m0, m1, m2]
theorem knKey {k : Kn} (h1 : I63 k.opt) (h2 : I63 k.low) (h3 : I63 k.high) : ∃ l, keyOf Try.prog 196 (knV k) = some l :=
  key3 (by kernel_rfl) (fun _ _ _ => by kernel_rfl) (by kernel_rfl) Try.underlying196 (by decide) (by decide) (by decide) h1 h2 h3
theorem paKey {o : Int} {a b : Nat} (h1 : I63 o) (h2 : I63 a) (h3 : I63 b) : ∃ l, keyOf Try.prog 199 (paV (o, a, b)) = some l :=
  key3 (by kernel_rfl) (fun _ _ _ => by kernel_rfl) (by kernel_rfl) Try.underlying199 (by decide) (by decide) (by decide) h1 h2 h3
theorem knLaw : Keyed Try.prog 196 := Keyed.of_law (deep_law_laid (P := Try.prog) (by kernel_rfl) (m := 3) (by decide) (of_decide_eq_true (by kernel_rfl)) (by kernel_rfl) (by kernel_rfl))
theorem paLaw : Keyed Try.prog 199 := Keyed.of_law (deep_law_laid (P := Try.prog) (by kernel_rfl) (m := 3) (by decide) (of_decide_eq_true (by kernel_rfl)) (by kernel_rfl) (by kernel_rfl))
theorem zInt (w : World) : (zeroValue 3).run Try.prog w = .ok (.int .i64 0) w := by kernel_rfl

/-! what is kept -/
/-- Nothing has changed but the blocks of a set, and new ones. -/
structure Keeps (S : Nat → Prop) (w w' : World) : Prop where
  os : w'.os = w.os
  tape : w'.tape = w.tape
  output : w'.output = w.output
  size : w.heap.size ≤ w'.heap.size
  block : ∀ k, k < w.heap.size → ¬ S k → w'.heap[k]? = w.heap[k]?
theorem Keeps.refl (S : Nat → Prop) (w : World) : Keeps S w w := ⟨rfl, rfl, rfl, Nat.le_refl _, fun _ _ _ => rfl⟩
theorem Keeps.trans {S T : Nat → Prop} {a b c : World} (h : Keeps S a b) (k : Keeps T b c) (hT : ∀ i, i < a.heap.size → T i → S i) : Keeps S a c :=
  ⟨k.os.trans h.os, k.tape.trans h.tape, k.output.trans h.output, Nat.le_trans h.size k.size, fun i hi hn => (k.block i (Nat.lt_of_lt_of_le hi h.size) (fun ht => hn (hT i hi ht))).trans (h.block i hi hn)⟩
theorem Keeps.mono {S T : Nat → Prop} {a b : World} (h : Keeps S a b) (hT : ∀ i, i < a.heap.size → S i → T i) : Keeps T a b :=
  ⟨h.os, h.tape, h.output, h.size, fun i hi hn => h.block i hi fun hs => hn (hT i hi hs)⟩
theorem Keeps.of_below {S : Nat → Prop} {a b : World} (h : Below a.heap.size a b) : Keeps S a b := ⟨h.os, h.tape, h.output, h.size, fun i hi _ => h.block i hi⟩
theorem Keeps.of_grown {S : Nat → Prop} {a b : World} {row : Option Nat} (h : a.grownBy b row) (hr : ∀ k, row = some k → S k) : Keeps S a b := ⟨h.os, h.tape, h.output, h.size, fun i hi hn => h.block i hi fun e => hn (hr i e.symm)⟩
theorem Keeps.drew {S : Nat → Prop} {a b : World} (h : Keeps S a b) : Keeps S a b.drew := ⟨h.os, h.tape, h.output, h.size, h.block⟩
theorem Keeps.drewN {S : Nat → Prop} {a b : World} (h : Keeps S a b) (n : Nat) : Keeps S a (b.drewN n) := ⟨h.os, h.tape, h.output, h.size, h.block⟩
theorem Keeps.alloc {S : Nat → Prop} {a b : World} (h : Keeps S a b) (o : Obj) : Keeps S a (b.alloc o) :=
  ⟨h.os, h.tape, h.output, by have := h.size; simp; omega, fun i hi hn => (Below.heap_alloc b o i (Nat.lt_of_lt_of_le hi h.size)).trans (h.block i hi hn)⟩
theorem Keeps.setCell {S : Nat → Prop} {a b : World} (h : Keeps S a b) {p : Addr} (hp : S p.block ∨ a.heap.size ≤ p.block) (u : Value) : Keeps S a (b.setCell p u) :=
  ⟨h.os, h.tape, h.output, by have := h.size; simpa [World.setCell] using this, fun i hi hn => (Below.heap_setCell b p u i (fun e => by
    rcases hp with hp | hp
    · exact hn (by rw [e]; exact hp)
    · omega)).trans (h.block i hi hn)⟩
theorem Keeps.below {S : Nat → Prop} {a b : World} {B : Nat} (h : Keeps S a b) (hB : B ≤ a.heap.size) (hS : ∀ k, S k → B ≤ k) : Below B a b :=
  ⟨h.os, h.tape, h.output, h.size, fun i hi => h.block i (by omega) fun hs => by have := hS i hs; omega⟩
theorem kcell {S : Nat → Prop} {a b : World} (h : Keeps S a b) : ∀ k o, k < a.heap.size → ¬ S k → b.cell? ⟨k, o, none⟩ = a.cell? ⟨k, o, none⟩ :=
  fun k o hk hn => World.cell?_of_block (h.block k hk hn)

/-! the forest -/
structure Fo where
  base : Nat
  p : Nat
  N : Nat
  ks : List Kn
  kb : Nat
  cap : Nat
  bk : Nat
  nk : Nat
  K : Kn → Option Int
  bj : Nat
  nj : Nat
  J : Int × Nat × Nat → Option Int
def opB (o : Int) (x y : Bool) : Bool := if o = -4 then x && y else if o = -5 then x || y else x == y
theorem opB_comm (o : Int) (x y : Bool) : opB o x y = opB o y x := by
  unfold opB; split
  · exact Bool.and_comm _ _
  · split
    · exact Bool.or_comm _ _
    · cases x <;> cases y <;> rfl
def knF (ks : List Kn) (i j : Nat) : Value := match j with
  | 0 => .int .i64 (topK ks i : Nat)
  | 1 => .int .i64 (lowK ks i : Nat)
  | _ => .int .i64 (highK ks i : Nat)
/-- The forest F stands in memory. -/
structure FoAt (w : World) (F : Fo) : Prop where
  box : w.heap[F.p]? = some (.cells #[.int .i64 F.N, .slice (some ⟨F.kb, 0, none⟩) F.ks.length F.cap, .map (some F.bk), .map (some F.bj)] 184 (0, 0))
  row : w.ownsRow F.base 196 3 (.slice (some ⟨F.kb, 0, none⟩) F.ks.length F.cap) F.ks.length (flat F.ks.length 3 (knF F.ks))
  known : MapIs Try.prog w 196 3 F.bk F.nk knV F.K
  joined : MapIs Try.prog w 199 3 F.bj F.nj paV F.J
  wf : WF F.N F.ks
  k1 : ∀ k x, F.K k = some x → ∃ i : Nat, x = i ∧ 2 ≤ i ∧ i < F.ks.length ∧ F.ks.getD i Kn.z = k
  k2 : ∀ i, 2 ≤ i → i < F.ks.length → F.K (F.ks.getD i Kn.z) = some ((i : Nat) : Int)
  j1 : ∀ o a b x, F.J (o, a, b) = some x → ∃ i : Nat, x = i ∧ i < F.ks.length ∧ a < F.ks.length ∧ b < F.ks.length ∧ (∀ v, ev F.ks v i = opB o (ev F.ks v a) (ev F.ks v b)) ∧ min (topK F.ks a) (topK F.ks b) ≤ topK F.ks i
  nkk : F.nk ≤ F.ks.length
  pb : F.base ≤ F.p
  bb : F.base ≤ F.bk ∧ F.base ≤ F.bj ∧ F.base ≤ F.kb
  ne1 : F.bk ≠ F.bj
  ne2 : F.kb ≠ F.p
  small : F.ks.length ≤ 1073741824 ∧ F.nj ≤ 1073741824 ∧ F.N ≤ 1000
def SF (F : Fo) (k : Nat) : Prop := k = F.p ∨ k = F.bk ∨ k = F.bj ∨ k = F.kb
section
variable {w : World} {F : Fo} (h : FoAt w F)
include h
theorem FoAt.lts : F.p < w.heap.size ∧ F.bk < w.heap.size ∧ F.bj < w.heap.size ∧ F.kb < w.heap.size :=
  ⟨box_lt h.box, h.known.lt, h.joined.lt, (h.row.lt F.kb rfl).2⟩
theorem FoAt.nes : F.p ≠ F.bk ∧ F.p ≠ F.bj ∧ F.kb ≠ F.bk ∧ F.kb ≠ F.bj := by
  obtain ⟨e1, c1, h1⟩ := h.known.obj
  obtain ⟨e2, c2, h2⟩ := h.joined.obj
  have h3 := h.box
  obtain ⟨_, ⟨h4, _⟩ | ⟨g, cp, cur, h4, _, h5, _⟩⟩ := h.row
  · cases h4
  · injection h4 with h4 _ _
    injection h4 with h4
    injection h4 with h4 _ _
    subst h4
    refine ⟨fun e => ?_, fun e => ?_, fun e => ?_, fun e => ?_⟩
    · rw [e, h1] at h3; cases h3
    · rw [e, h2] at h3; cases h3
    · rw [e, h1] at h5; cases h5
    · rw [e, h2] at h5; cases h5
theorem FoAt.cellN : w.cell? ⟨F.p, 0, none⟩ = some (.int .i64 F.N) := cellOf h.box 0
theorem FoAt.cellS : w.cell? ⟨F.p, 1, none⟩ = some (.slice (some ⟨F.kb, 0, none⟩) F.ks.length F.cap) := cellOf h.box 1
theorem FoAt.cellK : w.cell? ⟨F.p, 2, none⟩ = some (.map (some F.bk)) := cellOf h.box 2
theorem FoAt.cellJ : w.cell? ⟨F.p, 3, none⟩ = some (.map (some F.bj)) := cellOf h.box 3
theorem FoAt.knot {n : Nat} (hn : n < F.ks.length) : w.cell? ⟨F.kb, n * 3, none⟩ = some (.int .i64 (topK F.ks n : Nat)) ∧ w.cell? ⟨F.kb, n * 3 + 1, none⟩ = some (.int .i64 (lowK F.ks n : Nat)) ∧ w.cell? ⟨F.kb, n * 3 + 2, none⟩ = some (.int .i64 (highK F.ks n : Nat)) := by
  have hc := h.row.cells (g := F.kb) rfl
  have hx : ∀ j, j < 3 → w.cell? ⟨F.kb, n * 3 + j, none⟩ = some (knF F.ks n j) := fun j hj => by
    have := hc (n * 3 + j) _ (flat_get (f := knF F.ks) hn hj)
    have he : (⟨F.kb, 0, none⟩ : Addr).add (n * 3 + j) = ⟨F.kb, n * 3 + j, none⟩ := by
      unfold Addr.add
      split
      · rename_i h0; rw [h0]
      · rw [Nat.zero_add]
    rwa [he] at this
  exact ⟨hx 0 (by omega), hx 1 (by omega), hx 2 (by omega)⟩
theorem FoAt.same {w' : World} (hs : ∀ k, SF F k → w'.heap[k]? = w.heap[k]?) : FoAt w' F where
  box := (hs _ (.inl rfl)).trans h.box
  row := by
    obtain ⟨h1, ⟨h4, h6⟩ | ⟨g, cp, cur, h4, h6, h5, h7⟩⟩ := h.row
    · cases h4
    · refine ⟨h1, .inr ⟨g, cp, cur, h4, h6, ?_, h7⟩⟩
      injection h4 with h4 _ _
      injection h4 with h4
      injection h4 with h4 _ _
      subst h4
      exact (hs _ (.inr (.inr (.inr rfl)))).trans h5
  known := h.known.same (hs _ (.inr (.inl rfl)))
  joined := h.joined.same (hs _ (.inr (.inr (.inl rfl))))
  wf := h.wf
  k1 := h.k1
  k2 := h.k2
  j1 := h.j1
  nkk := h.nkk
  pb := h.pb
  bb := h.bb
  ne1 := h.ne1
  ne2 := h.ne2
  small := h.small
theorem FoAt.slt {k : Nat} (hk : SF F k) : k < w.heap.size := by
  obtain ⟨h1, h2, h3, h4⟩ := h.lts
  rcases hk with rfl | rfl | rfl | rfl <;> assumption
theorem FoAt.sbase {k : Nat} (hk : SF F k) : F.base ≤ k := by
  obtain ⟨h2, h3, h4⟩ := h.bb
  rcases hk with rfl | rfl | rfl | rfl
  · exact h.pb
  · exact h2
  · exact h3
  · exact h4
theorem FoAt.below {w' : World} (hb : Below w.heap.size w w') : FoAt w' F := h.same fun k hk => hb.block k (h.slt hk)
theorem FoAt.keeps {w' : World} {S : Nat → Prop} (hb : Keeps S w w') (hS : ∀ k, SF F k → ¬ S k) : FoAt w' F := h.same fun k hk => hb.block k (h.slt hk) (hS k hk)
end
/-- From a forest in one world to a forest in a later one that has all its nodes. -/
structure FStep (w : World) (F : Fo) (w' : World) (F' : Fo) : Prop where
  here : FoAt w' F'
  ba : F'.base = F.base
  p : F'.p = F.p
  N : F'.N = F.N
  bk : F'.bk = F.bk
  bj : F'.bj = F.bj
  ks : ∃ e, F'.ks = F.ks ++ e
  kb : F'.kb = F.kb ∨ w.heap.size ≤ F'.kb
  keep : Keeps (SF F) w w'
theorem FStep.sub {w w' : World} {F F' : Fo} (h : FStep w F w' F') : ∀ k, k < w.heap.size → SF F' k → SF F k := by
  intro k hk hs
  unfold SF at hs ⊢
  rw [h.p, h.bk, h.bj] at hs
  rcases h.kb with e | e
  · rw [e] at hs; exact hs
  · omega
theorem FStep.trans {a b c : World} {F G H : Fo} (h : FStep a F b G) (k : FStep b G c H) : FStep a F c H where
  here := k.here
  ba := k.ba.trans h.ba
  p := k.p.trans h.p
  N := k.N.trans h.N
  bk := k.bk.trans h.bk
  bj := k.bj.trans h.bj
  ks := by
    obtain ⟨e, he⟩ := h.ks
    obtain ⟨f, hf⟩ := k.ks
    exact ⟨e ++ f, by rw [hf, he, List.append_assoc]⟩
  kb := by
    rcases k.kb with e | e
    · rw [e]; exact h.kb
    · exact .inr (Nat.le_trans h.keep.size e)
  keep := h.keep.trans k.keep h.sub
theorem FStep.refl {w : World} {F : Fo} (h : FoAt w F) : FStep w F w F := ⟨h, rfl, rfl, rfl, rfl, rfl, ⟨[], by simp⟩, .inl rfl, Keeps.refl _ _⟩
theorem FStep.of_below {w w' : World} {F : Fo} (h : FoAt w F) (hb : Below w.heap.size w w') : FStep w F w' F := ⟨h.below hb, rfl, rfl, rfl, rfl, rfl, ⟨[], by simp⟩, .inl rfl, Keeps.of_below hb⟩
theorem FStep.then_below {w w' w'' : World} {F F' : Fo} (h : FStep w F w' F') (hb : Below w'.heap.size w' w'') : FStep w F w'' F' := h.trans (FStep.of_below h.here hb)
theorem FStep.le {w w' : World} {F F' : Fo} (h : FStep w F w' F') : F.ks.length ≤ F'.ks.length := by
  obtain ⟨e, he⟩ := h.ks
  rw [he, List.length_append]; omega
theorem FStep.ev {w w' : World} {F F' : Fo} (h : FStep w F w' F') (hw : WF F.N F.ks) {n : Nat} (hn : n < F.ks.length) (v : Nat → Bool) : ev F'.ks v n = ev F.ks v n := by
  obtain ⟨e, he⟩ := h.ks
  rw [he]; exact ev_old hw e v hn
theorem FStep.top {w w' : World} {F F' : Fo} (h : FStep w F w' F') {n : Nat} (hn : n < F.ks.length) : topK F'.ks n = topK F.ks n := by
  obtain ⟨e, he⟩ := h.ks
  rw [he]; exact topK_old e hn
theorem FStep.below {w w' : World} {F F' : Fo} (h : FStep w F w' F') (hF : FoAt w F) (hB : F.base ≤ w.heap.size) : Below F.base w w' := h.keep.below hB fun k hk => hF.sbase hk
/-- A block of the caller's own is kept. -/
theorem FStep.block {w w' : World} {F F' : Fo} (h : FStep w F w' F') {k : Nat} (hk : k < w.heap.size) (hn : ¬ SF F k) : w'.heap[k]? = w.heap[k]? ∧ ¬ SF F' k := ⟨h.keep.block k hk hn, fun hs => hn (h.sub k hk hs)⟩
theorem flat_knSnoc (ks : List Kn) (k : Kn) : flat (ks ++ [k]).length 3 (knF (ks ++ [k])) = flat ks.length 3 (knF ks) ++ [.int .i64 (k.opt : Nat), .int .i64 (k.low : Nat), .int .i64 (k.high : Nat)] := by
  apply List.ext_getElem?
  intro m
  rcases Nat.lt_or_ge m (ks.length * 3) with hm | hm
  · rw [List.getElem?_append_left (by rw [flat_length]; exact hm)]
    obtain ⟨i, j, rfl, hj⟩ : ∃ i j, m = i * 3 + j ∧ j < 3 := ⟨m / 3, m % 3, by omega, by omega⟩
    have hi : i < ks.length := by omega
    rw [flat_get (by simp; omega) hj, flat_get hi hj]
    simp only [knF, topK_old _ hi, lowK_old _ hi, highK_old _ hi]
  · rw [List.getElem?_append_right (by rw [flat_length]; exact hm), flat_length]
    rcases Nat.lt_or_ge m (ks.length * 3 + 3) with h3 | h3
    · obtain ⟨j, rfl, hj⟩ : ∃ j, m = ks.length * 3 + j ∧ j < 3 := ⟨m - ks.length * 3, by omega, by omega⟩
      rw [flat_get (by simp) hj, Nat.add_sub_cancel_left]
      match j, hj with
      | 0, _ => simp [knF, topK]
      | 1, _ => simp [knF, lowK]
      | 2, _ => simp [knF, highK]
    · rw [List.getElem?_eq_none (by rw [flat_length]; simp; omega), List.getElem?_eq_none (by simp; omega)]
/-- One more node. -/
theorem FoAt.grow {w w4 : World} {F : Fo} (h : FoAt w F) {k : Kn} (hwf : WF F.N (F.ks ++ [k])) {g cap : Nat} (hg : g = F.kb ∨ w.heap.size ≤ g) (hbx : w4.heap[F.p]? = some (.cells #[.int .i64 F.N, .slice (some ⟨g, 0, none⟩) (F.ks.length + 1) cap, .map (some F.bk), .map (some F.bj)] 184 (0, 0)))
    (hrow : w4.ownsRow F.base 196 3 (.slice (some ⟨g, 0, none⟩) (F.ks.length + 1) cap) (F.ks.length + 1) (flat F.ks.length 3 (knF F.ks) ++ [.int .i64 (k.opt : Nat), .int .i64 (k.low : Nat), .int .i64 (k.high : Nat)]))
    (hkn : MapIs Try.prog w4 196 3 F.bk (F.nk + 1) knV (putM F.K k F.ks.length)) (hj : w4.heap[F.bj]? = w.heap[F.bj]?) (hnew : F.K k = none) (hkeep : Keeps (SF F) w w4) (hsz : F.ks.length + 1 ≤ 1073741824) :
    ∃ F', FStep w F w4 F' ∧ F'.ks = F.ks ++ [k] ∧ F'.nj = F.nj ∧ F'.J = F.J := by
  have hlts := h.lts
  have hget : (F.ks ++ [k]).getD F.ks.length Kn.z = k := by simp [List.getD_eq_getElem?_getD]
  refine ⟨{ F with ks := F.ks ++ [k], kb := g, cap := cap, K := putM F.K k F.ks.length, nk := F.nk + 1 }, ⟨?_, rfl, rfl, rfl, rfl, rfl, ⟨[k], rfl⟩, hg, hkeep⟩, rfl, rfl, rfl⟩
  refine ⟨?_, ?_, hkn, h.joined.same hj, hwf, ?_, ?_, ?_, ?_, h.pb, ?_, h.ne1, ?_, ?_⟩
  · show w4.heap[F.p]? = some (.cells #[.int .i64 F.N, .slice (some ⟨g, 0, none⟩) (F.ks ++ [k]).length cap, .map (some F.bk), .map (some F.bj)] 184 (0, 0))
    rw [List.length_append, List.length_singleton]; exact hbx
  · show w4.ownsRow F.base 196 3 (.slice (some ⟨g, 0, none⟩) (F.ks ++ [k]).length cap) (F.ks ++ [k]).length (flat (F.ks ++ [k]).length 3 (knF (F.ks ++ [k])))
    rw [flat_knSnoc, List.length_append, List.length_singleton]; exact hrow
  · intro k' x hx
    show ∃ i : Nat, x = i ∧ 2 ≤ i ∧ i < (F.ks ++ [k]).length ∧ (F.ks ++ [k]).getD i Kn.z = k'
    replace hx : putM F.K k F.ks.length k' = some x := hx
    unfold putM at hx
    split at hx
    · rename_i e
      injection hx with hx
      exact ⟨F.ks.length, hx.symm, h.wf.two, by simp, by rw [hget, e]⟩
    · obtain ⟨i, h1, h2, h3, h4⟩ := h.k1 k' x hx
      exact ⟨i, h1, h2, by simp; omega, by rw [getD_old _ h3]; exact h4⟩
  · intro i h2 hi
    show putM F.K k F.ks.length ((F.ks ++ [k]).getD i Kn.z) = some (i : Int)
    replace hi : i < (F.ks ++ [k]).length := hi
    rw [List.length_append, List.length_singleton] at hi
    unfold putM
    rcases Nat.lt_or_ge i F.ks.length with hlt | hge
    · rw [getD_old _ hlt, if_neg (fun e => by
        have := h.k2 i h2 hlt
        rw [e, hnew] at this
        cases this), h.k2 i h2 hlt]
    · obtain rfl : i = F.ks.length := by omega
      rw [hget, if_pos rfl]
  · intro o a b x hx
    obtain ⟨i, h1, h2, h3, h4, h5, h6⟩ := h.j1 o a b x hx
    show ∃ i : Nat, x = i ∧ i < (F.ks ++ [k]).length ∧ a < (F.ks ++ [k]).length ∧ b < (F.ks ++ [k]).length ∧ (∀ v, ev (F.ks ++ [k]) v i = opB o (ev (F.ks ++ [k]) v a) (ev (F.ks ++ [k]) v b)) ∧ min (topK (F.ks ++ [k]) a) (topK (F.ks ++ [k]) b) ≤ topK (F.ks ++ [k]) i
    refine ⟨i, h1, by simp; omega, by simp; omega, by simp; omega, fun v => ?_, ?_⟩
    · rw [ev_old h.wf _ v h2, ev_old h.wf _ v h3, ev_old h.wf _ v h4]; exact h5 v
    · rw [topK_old _ h2, topK_old _ h3, topK_old _ h4]; exact h6
  · have := h.nkk
    simp; omega
  · have := h.bb
    refine ⟨this.1, this.2.1, ?_⟩
    rcases hg with rfl | hg
    · exact this.2.2
    · exact (hrow.lt g rfl).1
  · rcases hg with rfl | hg
    · exact h.ne2
    · show g ≠ F.p
      omega
  · have := h.small
    refine ⟨?_, this.2⟩
    show (F.ks ++ [k]).length ≤ 1073741824
    simp; omega
end Go.Proofs.Ytmabfnddedffoaa
/- Small functions of the forest: walks. -/
namespace Go.Proofs.Ytmabfnddedffoaa
open Go.RowKit
open Go.Maps (Keyed)
set_option linter.unusedVariables false
set_option linter.unusedSimpArgs false

set_option maxRecDepth 100000 in
theorem branch_any (F : Fo) (n o : Nat) (b : Bool) (w : World) (h : FoAt w F) (hn : n < F.ks.length) :
    Calls Try.prog 168 #[.pointer (some ⟨F.p, 0, none⟩), .int .i64 n, .int .i64 o, .bool b] w fun e w' => e = .returned (.int .i64 (brK F.ks n o b : Nat)) ∧ Below w.heap.size w w' := by
  have c1 := h.cellS
  obtain ⟨k0, k1, k2⟩ := h.knot hn
  obtain ⟨l0, _, _, l3⟩ := h.lts
  have hi0 : (0 : Int) ≤ (n : Int) := by omega
  have hi1 : (n : Int) < (F.ks.length : Int) := by omega
  have hbr : brK F.ks n o b = if topK F.ks n = o then (if b then highK F.ks n else lowK F.ks n) else n := rfl
  have HBR := hide hbr
  clear hbr h
  by_cases ht : topK F.ks n = o
  · have ht1 : ((topK F.ks n : Int) != (o : Int)) = false := by simp [ht]
    have HT := hide ht
    clear ht
    cases b
    · go_enter Try.func168, Try.ntmps168
      go_wp2
      go_ret
      refine ⟨?_, (by repeat (first | exact Below.refl _ _ | assumption | refine Below.drew ?_ | refine Below.drewN ?_ _ | refine Below.allocT ?_ (Nat.le_refl _) _ | refine Below.setCell ?_ (by simp <;> omega) _ | refine Below.to ?_ (by assumption) (Nat.le_refl _)))⟩
      rw [HBR.out, if_pos HT.out]; rfl
    · go_enter Try.func168, Try.ntmps168
      go_wp2
      go_ret
      refine ⟨?_, (by repeat (first | exact Below.refl _ _ | assumption | refine Below.drew ?_ | refine Below.drewN ?_ _ | refine Below.allocT ?_ (Nat.le_refl _) _ | refine Below.setCell ?_ (by simp <;> omega) _ | refine Below.to ?_ (by assumption) (Nat.le_refl _)))⟩
      rw [HBR.out, if_pos HT.out]; rfl
  · have ht1 : ((topK F.ks n : Int) != (o : Int)) = true := by simp; omega
    have HT := hide ht
    clear ht
    go_enter Try.func168, Try.ntmps168
    go_wp2
    go_ret
    refine ⟨?_, (by repeat (first | exact Below.refl _ _ | assumption | refine Below.drew ?_ | refine Below.drewN ?_ _ | refine Below.allocT ?_ (Nat.le_refl _) _ | refine Below.setCell ?_ (by simp <;> omega) _ | refine Below.to ?_ (by assumption) (Nat.le_refl _)))⟩
    rw [HBR.out, if_neg HT.out]; rfl

/-- The forest that newForest makes. -/
def newFo (B N : Nat) : Fo := ⟨B, B + 3, N, [⟨N, 0, 0⟩, ⟨N, 0, 0⟩], B, 2, B + 1, 0, fun _ => none, B + 2, 0, fun _ => none⟩
theorem newFo_at (N : Nat) (hN : N ≤ 1000) (w w' : World) (C : Array Value) (hC : C = #[.int .i64 N, .int .i64 0, .int .i64 0, .int .i64 N, .int .i64 0, .int .i64 0])
    (h0 : w'.heap[w.heap.size]? = some (.cells C 196 (0, 0))) (h1 : w'.heap[w.heap.size + 1]? = some (.map #[] 0)) (h2 : w'.heap[w.heap.size + 2]? = some (.map #[] 0))
    (h3 : w'.heap[w.heap.size + 3]? = some (.cells #[.int .i64 N, .slice (some ⟨w.heap.size, 0, none⟩) 2 2, .map (some (w.heap.size + 1)), .map (some (w.heap.size + 2))] 184 (0, 0))) : FoAt w' (newFo w.heap.size N) where
  box := h3
  row := by
    subst hC
    exact ⟨by simp [flat, newFo], .inr ⟨w.heap.size, 2, _, rfl, Nat.le_refl _, h0, Nat.le_refl _, by unfold maxLen; decide, rfl, by simp [newFo, flat, List.range_succ, knF, topK, lowK, highK]⟩⟩
  known := ⟨.map [], ⟨#[], 0, h1, ⟨by simp, MapKept.stamped_empty 0, by simp⟩, Nat.le_refl _, rfl⟩, fun a l _ => ⟨fun _ => rfl, fun x h => by cases h⟩⟩
  joined := ⟨.map [], ⟨#[], 0, h2, ⟨by simp, MapKept.stamped_empty 0, by simp⟩, Nat.le_refl _, rfl⟩, fun a l _ => ⟨fun _ => rfl, fun x h => by cases h⟩⟩
  wf := WF.start N
  k1 := fun k x h => by cases h
  k2 := fun i h2 hi => by simp [newFo] at hi; omega
  j1 := fun o a b x h => by cases h
  nkk := by simp [newFo]
  pb := by simp [newFo]
  bb := by simp [newFo]
  ne1 := by simp [newFo]
  ne2 := by simp [newFo]
  small := by simp [newFo]; omega
set_option maxRecDepth 100000 in
theorem newForest_any (N : Nat) (hN : N ≤ 1000) (w : World) :
    Calls Try.prog 166 #[.int .i64 N] w fun e w' => e = .returned (.pointer (some ⟨w.heap.size + 3, 0, none⟩)) ∧ FoAt w' (newFo w.heap.size N) ∧ Below w.heap.size w w' := by
  have hmm := @run_makeMap Try.prog
  go_enter Try.func166, Try.ntmps166
  go_wp2
  go_ret
  obtain ⟨a0, a1, a2, a3, hB, _⟩ := alloc4 (rfl : _ = (((w.alloc (.cells #[.int .i64 N, .int .i64 0, .int .i64 0, .int .i64 N, .int .i64 0, .int .i64 0] 196)).alloc (.map #[] 0)).alloc (.map #[] 0)).alloc (.cells #[.int .i64 N, .slice (some ⟨w.heap.size, 0, none⟩) 2 2, .map (some (w.heap.size + 1)), .map (some (w.heap.size + 1 + 1))] 184))
  exact ⟨rfl, newFo_at N hN w _ _ rfl a0 a1 a2 a3, hB⟩
end Go.Proofs.Ytmabfnddedffoaa
/- A node made, or found: walk. -/
namespace Go.Proofs.Ytmabfnddedffoaa
open Go.RowKit
open Go.Maps (Keyed)
set_option linter.unusedVariables false
set_option linter.unusedSimpArgs false
theorem kcell2 {g l : Nat} {a b : World} (h : Keeps (fun k => k = g ∨ k = l) a b) : ∀ k o, k < a.heap.size → ¬ k = g → ¬ k = l → b.cell? ⟨k, o, none⟩ = a.cell? ⟨k, o, none⟩ :=
  fun k o hk h1 h2 => kcell h k o hk fun e => e.elim h1 h2
/-- What node gives back. -/
structure NodeR (w : World) (F : Fo) (o low high : Nat) (n : Nat) (w' : World) (F' : Fo) : Prop where
  st : FStep w F w' F'
  lt : n < F'.ks.length
  len : F'.ks.length ≤ F.ks.length + 1
  nj : F'.nj = F.nj
  J : F'.J = F.J
  ev : ∀ v, ev F'.ks v n = if v o then ev F.ks v high else ev F.ks v low
  top : o ≤ topK F'.ks n

set_option maxRecDepth 100000 in
set_option maxHeartbeats 1000000 in
theorem node_any (F : Fo) (o low high : Nat) (w : World) (h : FoAt w F) (ho : o < F.N) (hl : low < F.ks.length) (hh : high < F.ks.length) (tl : o < topK F.ks low) (th : o < topK F.ks high) (hsz : F.ks.length + 1 ≤ 1073741824) :
    Calls Try.prog 175 #[.pointer (some ⟨F.p, 0, none⟩), .int .i64 o, .int .i64 low, .int .i64 high] w
      fun e w' => ∃ n F', e = .returned (.int .i64 (n : Nat)) ∧ NodeR w F o low high n w' F' := by
  have hsm := h.small
  by_cases heq : low = high
  · subst heq
    go_enter Try.func175, Try.ntmps175
    go_wp2
    go_ret
    exact ⟨low, F, rfl, FStep.refl h, hl, by omega, rfl, rfl, fun v => by simp, by omega⟩
  have heq1 : ((low : Int) == (high : Int)) = false := by simp; omega
  obtain ⟨l0, l1, l2, l3⟩ := h.lts
  obtain ⟨n1, n2, n3, n4⟩ := h.nes
  have hk63 : I63 ((⟨o, low, high⟩ : Kn).opt : Nat) ∧ I63 ((⟨o, low, high⟩ : Kn).low : Nat) ∧ I63 ((⟨o, low, high⟩ : Kn).high : Nat) := by
    simp only [I63]; omega
  obtain ⟨kl, hkl⟩ := knKey hk63.1 hk63.2.1 hk63.2.2
  have H := hide h
  have HNE := hide heq
  have HK := hide hkl
  have c2 : w.cell? ⟨F.p, 2, none⟩ = some (.map (some F.bk)) := h.cellK
  clear h heq hk63 hkl
  cases hx : F.K ⟨o, low, high⟩ with
  | some x =>
    obtain ⟨i, rfl, i2, il, ie⟩ := H.out.k1 _ _ hx
    have HLK0 : Hid (∀ w', Below w.heap.size w w' → (Instr.lookup 181 (.map (some F.bk)) (.agg #[.int .i64 o, .int .i64 low, .int .i64 high]) true).run Try.prog w' = .ok (.tuple #[.int .i64 i, .bool true]) w') := fun w' hb => by
      have := (H.out.below hb).known.look knLaw Try.underlying181 Try.underlying3 (zInt w') HK.out
      rw [hx] at this
      exact this
    clear hx
    have HIE := hide ie
    clear ie
    go_enter Try.func175, Try.ntmps175
    go_upto_region 4 with (fail)
    generalize hw0 : World.alloc _ _ = w0
    obtain ⟨hb0, hB0, hs0⟩ := alloc1 hw0
    clear hw0
    have d2 : w0.cell? ⟨F.p, 2, none⟩ = some (.map (some F.bk)) := (H.out.below hB0).cellK
    have e0 := cellOf hb0 0
    have e1 := cellOf hb0 1
    have e2 := cellOf hb0 2
    have HLK : Hid (∀ w', Below w0.heap.size w0 w' → (Instr.lookup 181 (.map (some F.bk)) (.agg #[.int .i64 o, .int .i64 low, .int .i64 high]) true).run Try.prog w' = .ok (.tuple #[.int .i64 i, .bool true]) w') := fun w' hb => HLK0.out w' (Below.to hB0 hb (Nat.le_refl _))
    have l4 : F.p < w0.heap.size := by omega
    have l5 : w.heap.size < w0.heap.size := by omega
    have HB0 := hide hB0
    clear hB0 hs0 HLK0 hb0
    refine wp_region_held_drew (S := (fun w' => Below w0.heap.size w0 w')) (by kernel_rfl) ?_ (fun hHeld => ?_)
    · try dsimp only
      exact (by repeat (first | exact Below.refl _ _ | assumption | refine Below.drew ?_ | refine Below.drewN ?_ _ | refine Below.allocT ?_ (Nat.le_refl _) _ | refine Below.setCell ?_ (by simp <;> omega) _ | refine Below.to ?_ (by assumption) (Nat.le_refl _)))
    refine wpAnyH_take (i := 0) (v := ?v2_0) rfl (by kernel_rfl) (by kernel_rfl) (by kernel_rfl) (fun _ _ _ h => h) (Or.inl ⟨by rfl, ?y2_0⟩) (by assumption) ?r2_0
    case' y2_0 => (intro w hSw; (try dsimp only at hSw); (try have hlS := HLK.out _ hSw); obtain ⟨hcS, hfS⟩ := bcell hSw; clear hSw; go_simp; try with_reducible rfl)
    try simp only [Act.put, zA, zB, zC, zD, zE, zF]
    refine wpAnyH_take (i := 1) (v := ?v2_1) rfl (by kernel_rfl) (by kernel_rfl) (by kernel_rfl) (fun _ _ _ h => h) (Or.inl ⟨by rfl, ?y2_1⟩) (by assumption) ?r2_1
    case' y2_1 => (intro w hSw; (try dsimp only at hSw); (try have hlS := HLK.out _ hSw); obtain ⟨hcS, hfS⟩ := bcell hSw; clear hSw; go_simp; try with_reducible rfl)
    try simp only [Act.put, zA, zB, zC, zD, zE, zF]
    refine wpAnyH_take (i := 2) (v := ?v2_2) rfl (by kernel_rfl) (by kernel_rfl) (by kernel_rfl) (fun _ _ _ h => h) (Or.inl ⟨by rfl, ?y2_2⟩) (by assumption) ?r2_2
    case' y2_2 => (intro w hSw; (try dsimp only at hSw); (try have hlS := HLK.out _ hSw); obtain ⟨hcS, hfS⟩ := bcell hSw; clear hSw; go_simp; try with_reducible rfl)
    try simp only [Act.put, zA, zB, zC, zD, zE, zF]
    refine wpAnyH_take (i := 3) (v := ?v2_3) rfl (by kernel_rfl) (by kernel_rfl) (by kernel_rfl) (fun _ _ _ h => h) (Or.inl ⟨by rfl, ?y2_3⟩) (by assumption) ?r2_3
    case' y2_3 => (intro w hSw; (try dsimp only at hSw); (try have hlS := HLK.out _ hSw); obtain ⟨hcS, hfS⟩ := bcell hSw; clear hSw; go_simp; try with_reducible rfl)
    try simp only [Act.put, zA, zB, zC, zD, zE, zF]
    refine wpAnyH_take (i := 4) (v := ?v2_4) rfl (by kernel_rfl) (by kernel_rfl) (by kernel_rfl) (fun _ _ _ h => h) (Or.inl ⟨by rfl, ?y2_4⟩) (by assumption) ?r2_4
    case' y2_4 => (intro w hSw; (try dsimp only at hSw); (try have hlS := HLK.out _ hSw); obtain ⟨hcS, hfS⟩ := bcell hSw; clear hSw; go_simp; try with_reducible rfl)
    try simp only [Act.put, zA, zB, zC, zD, zE, zF]
    refine wpAnyH_take (i := 5) (v := ?v2_5) rfl (by kernel_rfl) (by kernel_rfl) (by kernel_rfl) (fun _ _ _ h => h) (Or.inl ⟨by rfl, ?y2_5⟩) (by assumption) ?r2_5
    case' y2_5 => (intro w hSw; (try dsimp only at hSw); (try have hlS := HLK.out _ hSw); obtain ⟨hcS, hfS⟩ := bcell hSw; clear hSw; go_simp; try with_reducible rfl)
    try simp only [Act.put, zA, zB, zC, zD, zE, zF]
    refine wpAnyH_take (i := 6) (v := ?v2_6) rfl (by kernel_rfl) (by kernel_rfl) (by kernel_rfl) (fun _ _ _ h => h) (Or.inl ⟨by rfl, ?y2_6⟩) (by assumption) ?r2_6
    case' y2_6 => (intro w hSw; (try dsimp only at hSw); (try have hlS := HLK.out _ hSw); obtain ⟨hcS, hfS⟩ := bcell hSw; clear hSw; go_simp; try with_reducible rfl)
    try simp only [Act.put, zA, zB, zC, zD, zE, zF]
    refine wpAnyH_take (i := 7) (v := ?v2_7) rfl (by kernel_rfl) (by kernel_rfl) (by kernel_rfl) (fun _ _ _ h => h) (Or.inl ⟨by rfl, ?y2_7⟩) (by assumption) ?r2_7
    case' y2_7 => (intro w hSw; (try dsimp only at hSw); (try have hlS := HLK.out _ hSw); obtain ⟨hcS, hfS⟩ := bcell hSw; clear hSw; go_simp; try with_reducible rfl)
    try simp only [Act.put, zA, zB, zC, zD, zE, zF]
    refine wpAnyH_take (i := 8) (v := ?v2_8) rfl (by kernel_rfl) (by kernel_rfl) (by kernel_rfl) (fun _ _ _ h => h) (Or.inl ⟨by rfl, ?y2_8⟩) (by assumption) ?r2_8
    case' y2_8 => (intro w hSw; (try dsimp only at hSw); (try have hlS := HLK.out _ hSw); obtain ⟨hcS, hfS⟩ := bcell hSw; clear hSw; go_simp; try with_reducible rfl)
    try simp only [Act.put, zA, zB, zC, zD, zE, zF]
    refine wpAnyH_take (i := 9) (v := ?v2_9) rfl (by kernel_rfl) (by kernel_rfl) (by kernel_rfl) (fun _ _ _ h => h) (Or.inl ⟨by rfl, ?y2_9⟩) (by assumption) ?r2_9
    case' y2_9 => (intro w hSw; (try dsimp only at hSw); (try have hlS := HLK.out _ hSw); obtain ⟨hcS, hfS⟩ := bcell hSw; clear hSw; go_simp; try with_reducible rfl)
    try simp only [Act.put, zA, zB, zC, zD, zE, zF]
    refine wpAnyH_take (i := 10) (v := ?v2_10) rfl (by kernel_rfl) (by kernel_rfl) (by kernel_rfl) (fun _ _ _ h => h) (Or.inl ⟨by rfl, ?y2_10⟩) (by assumption) ?r2_10
    case' y2_10 => (intro w hSw; (try dsimp only at hSw); (try have hlS := HLK.out _ hSw); obtain ⟨hcS, hfS⟩ := bcell hSw; clear hSw; go_simp; try with_reducible rfl)
    try simp only [Act.put, zA, zB, zC, zD, zE, zF]
    refine wpAnyH_done (by kernel_rfl) ?_ _
    go_wp2
    go_ret
    refine ⟨i, F, rfl, FStep.of_below H.out (Below.to HB0.out (by repeat (first | exact Below.refl _ _ | assumption | refine Below.drew ?_ | refine Below.drewN ?_ _ | refine Below.allocT ?_ (Nat.le_refl _) _ | refine Below.setCell ?_ (by simp <;> omega) _ | refine Below.to ?_ (by assumption) (Nat.le_refl _))) (Nat.le_refl _)), il, by omega, rfl, rfl, fun v => ?_, ?_⟩
    · rw [ev_step H.out.wf v i2 il]
      unfold topK lowK highK
      rw [HIE.out]
    · unfold topK
      rw [HIE.out]
      exact Nat.le_refl _
  | none =>
    obtain ⟨i0, hi0, hz0, hz1, hz2⟩ := info_parts infoKn
    have hnew : ∀ i, 2 ≤ i → i < F.ks.length → F.ks.getD i Kn.z ≠ ⟨o, low, high⟩ := fun i h2 hi e => by
      have := H.out.k2 i h2 hi
      rw [e, hx] at this
      cases this
    have hwf := H.out.wf.snoc (k := ⟨o, low, high⟩) ho hl hh HNE.out tl th hnew
    have HWF := hide hwf
    have HNEW := hide hx
    have hne2 := H.out.ne2
    have HLK0 : Hid (∀ w', Below w.heap.size w w' → (Instr.lookup 181 (.map (some F.bk)) (.agg #[.int .i64 o, .int .i64 low, .int .i64 high]) true).run Try.prog w' = .ok (.tuple #[.int .i64 0, .bool false]) w') := fun w' hb => by
      have := (H.out.below hb).known.look knLaw Try.underlying181 Try.underlying3 (zInt w') HK.out
      rw [hx] at this
      exact this
    clear hx hwf hnew
    go_enter Try.func175, Try.ntmps175
    go_upto_region 4 with (fail)
    generalize hw0 : World.alloc _ _ = w0
    obtain ⟨hb0, hB0, hs0⟩ := alloc1 hw0
    clear hw0
    have d2 : w0.cell? ⟨F.p, 2, none⟩ = some (.map (some F.bk)) := (H.out.below hB0).cellK
    have d1 : w0.cell? ⟨F.p, 1, none⟩ = some (.slice (some ⟨F.kb, 0, none⟩) F.ks.length F.cap) := (H.out.below hB0).cellS
    have e0 := cellOf hb0 0
    have e1 := cellOf hb0 1
    have e2 := cellOf hb0 2
    have HLK : Hid (∀ w', Below w0.heap.size w0 w' → (Instr.lookup 181 (.map (some F.bk)) (.agg #[.int .i64 o, .int .i64 low, .int .i64 high]) true).run Try.prog w' = .ok (.tuple #[.int .i64 0, .bool false]) w') := fun w' hb => HLK0.out w' (Below.to hB0 hb (Nat.le_refl _))
    have l4 : F.p < w0.heap.size := by omega
    have l5 : w.heap.size < w0.heap.size := by omega
    have HB0 := hide hB0
    have HS0 : Hid (w0.heap.size = w.heap.size + 1) := hs0
    have HH0 := hide hb0
    clear hB0 hs0 HLK0 hb0
    refine wp_region_held_drew (S := (fun w' => Below w0.heap.size w0 w')) (by kernel_rfl) ?_ (fun hHeld => ?_)
    · try dsimp only
      exact (by repeat (first | exact Below.refl _ _ | assumption | refine Below.drew ?_ | refine Below.drewN ?_ _ | refine Below.allocT ?_ (Nat.le_refl _) _ | refine Below.setCell ?_ (by simp <;> omega) _ | refine Below.to ?_ (by assumption) (Nat.le_refl _)))
    refine wpAnyH_take (i := 0) (v := ?v3_0) rfl (by kernel_rfl) (by kernel_rfl) (by kernel_rfl) (fun _ _ _ h => h) (Or.inl ⟨by rfl, ?y3_0⟩) (by assumption) ?r3_0
    case' y3_0 => (intro w hSw; (try dsimp only at hSw); (try have hlS := HLK.out _ hSw); obtain ⟨hcS, hfS⟩ := bcell hSw; clear hSw; go_simp; try with_reducible rfl)
    try simp only [Act.put, zA, zB, zC, zD, zE, zF]
    refine wpAnyH_take (i := 1) (v := ?v3_1) rfl (by kernel_rfl) (by kernel_rfl) (by kernel_rfl) (fun _ _ _ h => h) (Or.inl ⟨by rfl, ?y3_1⟩) (by assumption) ?r3_1
    case' y3_1 => (intro w hSw; (try dsimp only at hSw); (try have hlS := HLK.out _ hSw); obtain ⟨hcS, hfS⟩ := bcell hSw; clear hSw; go_simp; try with_reducible rfl)
    try simp only [Act.put, zA, zB, zC, zD, zE, zF]
    refine wpAnyH_take (i := 2) (v := ?v3_2) rfl (by kernel_rfl) (by kernel_rfl) (by kernel_rfl) (fun _ _ _ h => h) (Or.inl ⟨by rfl, ?y3_2⟩) (by assumption) ?r3_2
    case' y3_2 => (intro w hSw; (try dsimp only at hSw); (try have hlS := HLK.out _ hSw); obtain ⟨hcS, hfS⟩ := bcell hSw; clear hSw; go_simp; try with_reducible rfl)
    try simp only [Act.put, zA, zB, zC, zD, zE, zF]
    refine wpAnyH_take (i := 3) (v := ?v3_3) rfl (by kernel_rfl) (by kernel_rfl) (by kernel_rfl) (fun _ _ _ h => h) (Or.inl ⟨by rfl, ?y3_3⟩) (by assumption) ?r3_3
    case' y3_3 => (intro w hSw; (try dsimp only at hSw); (try have hlS := HLK.out _ hSw); obtain ⟨hcS, hfS⟩ := bcell hSw; clear hSw; go_simp; try with_reducible rfl)
    try simp only [Act.put, zA, zB, zC, zD, zE, zF]
    refine wpAnyH_take (i := 4) (v := ?v3_4) rfl (by kernel_rfl) (by kernel_rfl) (by kernel_rfl) (fun _ _ _ h => h) (Or.inl ⟨by rfl, ?y3_4⟩) (by assumption) ?r3_4
    case' y3_4 => (intro w hSw; (try dsimp only at hSw); (try have hlS := HLK.out _ hSw); obtain ⟨hcS, hfS⟩ := bcell hSw; clear hSw; go_simp; try with_reducible rfl)
    try simp only [Act.put, zA, zB, zC, zD, zE, zF]
    refine wpAnyH_take (i := 5) (v := ?v3_5) rfl (by kernel_rfl) (by kernel_rfl) (by kernel_rfl) (fun _ _ _ h => h) (Or.inl ⟨by rfl, ?y3_5⟩) (by assumption) ?r3_5
    case' y3_5 => (intro w hSw; (try dsimp only at hSw); (try have hlS := HLK.out _ hSw); obtain ⟨hcS, hfS⟩ := bcell hSw; clear hSw; go_simp; try with_reducible rfl)
    try simp only [Act.put, zA, zB, zC, zD, zE, zF]
    refine wpAnyH_take (i := 6) (v := ?v3_6) rfl (by kernel_rfl) (by kernel_rfl) (by kernel_rfl) (fun _ _ _ h => h) (Or.inl ⟨by rfl, ?y3_6⟩) (by assumption) ?r3_6
    case' y3_6 => (intro w hSw; (try dsimp only at hSw); (try have hlS := HLK.out _ hSw); obtain ⟨hcS, hfS⟩ := bcell hSw; clear hSw; go_simp; try with_reducible rfl)
    try simp only [Act.put, zA, zB, zC, zD, zE, zF]
    refine wpAnyH_take (i := 7) (v := ?v3_7) rfl (by kernel_rfl) (by kernel_rfl) (by kernel_rfl) (fun _ _ _ h => h) (Or.inl ⟨by rfl, ?y3_7⟩) (by assumption) ?r3_7
    case' y3_7 => (intro w hSw; (try dsimp only at hSw); (try have hlS := HLK.out _ hSw); obtain ⟨hcS, hfS⟩ := bcell hSw; clear hSw; go_simp; try with_reducible rfl)
    try simp only [Act.put, zA, zB, zC, zD, zE, zF]
    refine wpAnyH_take (i := 8) (v := ?v3_8) rfl (by kernel_rfl) (by kernel_rfl) (by kernel_rfl) (fun _ _ _ h => h) (Or.inl ⟨by rfl, ?y3_8⟩) (by assumption) ?r3_8
    case' y3_8 => (intro w hSw; (try dsimp only at hSw); (try have hlS := HLK.out _ hSw); obtain ⟨hcS, hfS⟩ := bcell hSw; clear hSw; go_simp; try with_reducible rfl)
    try simp only [Act.put, zA, zB, zC, zD, zE, zF]
    refine wpAnyH_take (i := 9) (v := ?v3_9) rfl (by kernel_rfl) (by kernel_rfl) (by kernel_rfl) (fun _ _ _ h => h) (Or.inl ⟨by rfl, ?y3_9⟩) (by assumption) ?r3_9
    case' y3_9 => (intro w hSw; (try dsimp only at hSw); (try have hlS := HLK.out _ hSw); obtain ⟨hcS, hfS⟩ := bcell hSw; clear hSw; go_simp; try with_reducible rfl)
    try simp only [Act.put, zA, zB, zC, zD, zE, zF]
    refine wpAnyH_take (i := 10) (v := ?v3_10) rfl (by kernel_rfl) (by kernel_rfl) (by kernel_rfl) (fun _ _ _ h => h) (Or.inl ⟨by rfl, ?y3_10⟩) (by assumption) ?r3_10
    case' y3_10 => (intro w hSw; (try dsimp only at hSw); (try have hlS := HLK.out _ hSw); obtain ⟨hcS, hfS⟩ := bcell hSw; clear hSw; go_simp; try with_reducible rfl)
    try simp only [Act.put, zA, zB, zC, zD, zE, zF]
    refine wpAnyH_done (by kernel_rfl) ?_ _
    clear HLK
    have m1 : ¬ w.heap.size = F.p := by omega
    have m2 : ¬ w.heap.size = F.kb := by omega
    go_upto_region 7 with (fail)
    have hrow0 : w0.ownsRow F.base 196 3 (.slice (some ⟨F.kb, 0, none⟩) F.ks.length F.cap) F.ks.length (flat F.ks.length 3 (knF F.ks)) := (H.out.below HB0.out).row
    have hbx0 : w0.heap[F.p]? = some (.cells #[.int .i64 F.N, .slice (some ⟨F.kb, 0, none⟩) F.ks.length F.cap, .map (some F.bk), .map (some F.bj)] 184 (0, 0)) := (H.out.below HB0.out).box
    have HROW := hide hrow0
    have HBX := hide hbx0
    have hkb0 := (H.out.below HB0.out).bb.2.2
    have HKB := hide hkb0
    clear hrow0 hbx0 hkb0
    refine wp_region_held_drew (S := (fun w' => Keeps (fun k => k = F.p ∨ k = F.kb) w0 w')) (by kernel_rfl) ?_ (fun hHeld => ?_)
    · try dsimp only
      (repeat (first | (with_reducible exact Keeps.refl _ _) | exact hKeep.out | exact hKeepS.out _ | assumption | (with_reducible refine Keeps.drew ?_) | (with_reducible refine Keeps.drewN ?_ _) | (with_reducible refine Keeps.alloc ?_ _) | (with_reducible refine Keeps.setCell ?_ (.inl (by first | exact .inl rfl | exact .inr rfl)) _)))
    refine wpAnyH_take (i := 0) (v := ?v1_1) rfl (by kernel_rfl) (by kernel_rfl) (by kernel_rfl) (fun _ _ _ h => h) (Or.inl ⟨by rfl, ?y1_1⟩) (by assumption) ?r1_1
    case' y1_1 => (intro w hSw; (try dsimp only at hSw); (try have hlS := HLK.out _ hSw); have hcS := kcell2 hSw; clear hSw; go_simp; try with_reducible rfl)
    try simp only [Act.put, zA, zB, zC, zD, zE, zF]
    refine wpAnyH_take (i := 1) (v := ?v1_2) rfl (by kernel_rfl) (by kernel_rfl) (by kernel_rfl) (fun _ _ _ h => h) (Or.inl ⟨by rfl, ?y1_2⟩) (by assumption) ?r1_2
    case' y1_2 => (intro w hSw; (try dsimp only at hSw); (try have hlS := HLK.out _ hSw); have hcS := kcell2 hSw; clear hSw; go_simp; try with_reducible rfl)
    try simp only [Act.put, zA, zB, zC, zD, zE, zF]
    refine wpAnyH_take (i := 2) (v := ?v1_3) rfl (by kernel_rfl) (by kernel_rfl) (by kernel_rfl) (fun _ _ _ h => h) (Or.inl ⟨by rfl, ?y1_3⟩) (by assumption) ?r1_3
    case' y1_3 => (intro w hSw; (try dsimp only at hSw); (try have hlS := HLK.out _ hSw); have hcS := kcell2 hSw; clear hSw; go_simp; try with_reducible rfl)
    try simp only [Act.put, zA, zB, zC, zD, zE, zF]
    refine wpAnyH_take (i := 3) (v := ?v1_4) rfl (by kernel_rfl) (by kernel_rfl) (by kernel_rfl) (fun _ _ _ h => h) (Or.inl ⟨by rfl, ?y1_4⟩) (by assumption) ?r1_4
    case' y1_4 => (intro w hSw; (try dsimp only at hSw); (try have hlS := HLK.out _ hSw); have hcS := kcell2 hSw; clear hSw; go_simp; try with_reducible rfl)
    try simp only [Act.put, zA, zB, zC, zD, zE, zF]
    refine wpAnyH_take (i := 5) (v := ?v1_5) rfl (by kernel_rfl) (by kernel_rfl) (by kernel_rfl) (fun _ _ _ h => h) (Or.inl ⟨by rfl, ?y1_5⟩) (by assumption) ?r1_5
    case' y1_5 => (intro w hSw; (try dsimp only at hSw); (try have hlS := HLK.out _ hSw); have hcS := kcell2 hSw; clear hSw; go_simp; try with_reducible rfl)
    try simp only [Act.put, zA, zB, zC, zD, zE, zF]
    refine wpAnyH_ready (rs := [4, 6]) (by kernel_rfl) (by simp) ?_
    refine (AllReadyH.cons rfl (fun K hK => ?o1_6_4) (AllReadyH.cons rfl (fun K hK => ?o1_6_6) AllReadyH.nil))
    case' o1_6_4 =>
      go_simp
      refine hK.out _ _ ?_ (fun hNext => ?_)
      · try dsimp only
        (repeat (first | (with_reducible exact Keeps.refl _ _) | exact hKeep.out | exact hKeepS.out _ | assumption | (with_reducible refine Keeps.drew ?_) | (with_reducible refine Keeps.drewN ?_ _) | (with_reducible refine Keeps.alloc ?_ _) | (with_reducible refine Keeps.setCell ?_ (.inl (by first | exact .inl rfl | exact .inr rfl)) _)))
      clear hK K hHeld
      have hHeld := hNext
      clear hNext
      (try dsimp only at hHeld)
      try simp only [Act.put, zA, zB, zC, zD, zE, zF]
      refine wpAnyH_ready (rs := [6]) (by kernel_rfl) (by simp) ?_
      refine (AllReadyH.cons rfl (fun K hK => ?_) AllReadyH.nil)
      go_simp
      refine hK.out _ _ ?_ (fun hNext => ?_)
      · try dsimp only
        (repeat (first | (with_reducible exact Keeps.refl _ _) | exact hKeep.out | exact hKeepS.out _ | assumption | (with_reducible refine Keeps.drew ?_) | (with_reducible refine Keeps.drewN ?_ _) | (with_reducible refine Keeps.alloc ?_ _) | (with_reducible refine Keeps.setCell ?_ (.inl (by first | exact .inl rfl | exact .inr rfl)) _)))
      clear hK K hHeld
      have hHeld := hNext
      clear hNext
      (try dsimp only at hHeld)
      try simp only [Act.put, zA, zB, zC, zD, zE, zF]
      refine wpAnyH_ready (rs := [7]) (by kernel_rfl) (by simp) ?_
      refine (AllReadyH.cons rfl (fun K hK => ?_) AllReadyH.nil)
      (refine step_append_any _ (by rfl) (.tmp 35) (.tmp 37) _ (by rfl) F.base 196 i0 _ 3 24 Try.underlying180 hi0 hz0 hz1 hz2 (by rfl) (by omega) (.slice (some ⟨F.kb, 0, none⟩) F.ks.length F.cap) F.ks.length (flat F.ks.length 3 (knF F.ks)) (by rfl) (World.ownsRow.alloc (w := w0.drew.drew) HROW.out _) (w0.heap.size + 1) (some ⟨w0.heap.size, 0, none⟩) 1 1 [.int .i64 o, .int .i64 low, .int .i64 high] (by rfl) ⟨rfl, fun _ => ⟨_, rfl, by simp, World.news_of_block (heap_alloc_new w0.drew.drew _)⟩⟩ (by simp [Value.oneCell']) (by unfold maxLen; omega) (by omega) (by have := HKB.out; have := HS0.out; simp; omega) ?_; intro v1 w1 hown1 hg1 hat1; obtain ⟨g, cap1, hv1, hgb, hgl⟩ := hown1.form (by omega); subst hv1; have hKeep : Hid (Keeps (fun k => k = F.p ∨ k = F.kb) w0 w1) := Keeps.trans (((Keeps.refl _ w0).drew.drew).alloc _) (Keeps.of_grown hg1 (fun k hk => .inr (by injection hk with hk; exact hk.symm))) (fun _ _ h => h); have hbx1 := ((hg1.block F.p (by simp; omega) (fun e => by injection e with e; exact hne2 e.symm)).trans (Below.heap_alloc _ _ _ (by simpa using l4))).trans HBX.out; have j0 := cellOf hbx1 1; have j1 := unfrozenOf hbx1 1; have HBX1 := hide hbx1; have HOWN1 := hide hown1; have HAT1 := hide hat1; have HG1 := hide hg1; have HGB := hide hgb; clear hbx1 hown1 hat1 hg1 hgb)
      (try dsimp only)
      refine hK.out _ _ ?_ (fun hNext => ?_)
      · try dsimp only
        (repeat (first | (with_reducible exact Keeps.refl _ _) | exact hKeep.out | exact hKeepS.out _ | assumption | (with_reducible refine Keeps.drew ?_) | (with_reducible refine Keeps.drewN ?_ _) | (with_reducible refine Keeps.alloc ?_ _) | (with_reducible refine Keeps.setCell ?_ (.inl (by first | exact .inl rfl | exact .inr rfl)) _)))
      clear hK K hHeld
      have hHeld := hNext
      clear hNext
      (try dsimp only at hHeld)
      try simp only [Act.put, zA, zB, zC, zD, zE, zF]
      refine wpAnyH_take (i := 8) (v := ?v1_9) rfl (by kernel_rfl) (by kernel_rfl) (by kernel_rfl) (fun _ _ _ h => h) (Or.inl ⟨by rfl, ?y1_9⟩) (by assumption) ?r1_9
      case' y1_9 => (intro w hSw; (try dsimp only at hSw); (try have hlS := HLK.out _ hSw); have hcS := kcell2 hSw; clear hSw; go_simp; try with_reducible rfl)
      try simp only [Act.put, zA, zB, zC, zD, zE, zF]
      refine wpAnyH_take (i := 9) (v := ?v1_10) rfl (by kernel_rfl) (by kernel_rfl) (by kernel_rfl) (fun _ _ _ h => h) (Or.inl ⟨by rfl, ?y1_10⟩) (by assumption) ?r1_10
      case' y1_10 => (intro w hSw; (try dsimp only at hSw); (try have hlS := HLK.out _ hSw); have hcS := kcell2 hSw; clear hSw; go_simp; try with_reducible rfl)
      try simp only [Act.put, zA, zB, zC, zD, zE, zF]
      refine wpAnyH_ready (rs := [10]) (by kernel_rfl) (by simp) ?_
      refine (AllReadyH.cons rfl (fun K hK => ?_) AllReadyH.nil)
      go_simp
      refine hK.out _ _ ?_ (fun hNext => ?_)
      · try dsimp only
        (repeat (first | (with_reducible exact Keeps.refl _ _) | exact hKeep.out | exact hKeepS.out _ | assumption | (with_reducible refine Keeps.drew ?_) | (with_reducible refine Keeps.drewN ?_ _) | (with_reducible refine Keeps.alloc ?_ _) | (with_reducible refine Keeps.setCell ?_ (.inl (by first | exact .inl rfl | exact .inr rfl)) _)))
      clear hK K hHeld
      have hHeld := hNext
      clear hNext
      (try dsimp only at hHeld)
      try simp only [Act.put, zA, zB, zC, zD, zE, zF]
      refine wpAnyH_done (by kernel_rfl) ?_ _
    case' o1_6_6 =>
      go_simp
      refine hK.out _ _ ?_ (fun hNext => ?_)
      · try dsimp only
        (repeat (first | (with_reducible exact Keeps.refl _ _) | exact hKeep.out | exact hKeepS.out _ | assumption | (with_reducible refine Keeps.drew ?_) | (with_reducible refine Keeps.drewN ?_ _) | (with_reducible refine Keeps.alloc ?_ _) | (with_reducible refine Keeps.setCell ?_ (.inl (by first | exact .inl rfl | exact .inr rfl)) _)))
      clear hK K hHeld
      have hHeld := hNext
      clear hNext
      (try dsimp only at hHeld)
      try simp only [Act.put, zA, zB, zC, zD, zE, zF]
      refine wpAnyH_ready (rs := [4]) (by kernel_rfl) (by simp) ?_
      refine (AllReadyH.cons rfl (fun K hK => ?_) AllReadyH.nil)
      go_simp
      refine hK.out _ _ ?_ (fun hNext => ?_)
      · try dsimp only
        (repeat (first | (with_reducible exact Keeps.refl _ _) | exact hKeep.out | exact hKeepS.out _ | assumption | (with_reducible refine Keeps.drew ?_) | (with_reducible refine Keeps.drewN ?_ _) | (with_reducible refine Keeps.alloc ?_ _) | (with_reducible refine Keeps.setCell ?_ (.inl (by first | exact .inl rfl | exact .inr rfl)) _)))
      clear hK K hHeld
      have hHeld := hNext
      clear hNext
      (try dsimp only at hHeld)
      try simp only [Act.put, zA, zB, zC, zD, zE, zF]
      refine wpAnyH_ready (rs := [7]) (by kernel_rfl) (by simp) ?_
      refine (AllReadyH.cons rfl (fun K hK => ?_) AllReadyH.nil)
      (refine step_append_any _ (by rfl) (.tmp 35) (.tmp 37) _ (by rfl) F.base 196 i0 _ 3 24 Try.underlying180 hi0 hz0 hz1 hz2 (by rfl) (by omega) (.slice (some ⟨F.kb, 0, none⟩) F.ks.length F.cap) F.ks.length (flat F.ks.length 3 (knF F.ks)) (by rfl) (World.ownsRow.alloc (w := w0.drew.drew) HROW.out _) (w0.heap.size + 1) (some ⟨w0.heap.size, 0, none⟩) 1 1 [.int .i64 o, .int .i64 low, .int .i64 high] (by rfl) ⟨rfl, fun _ => ⟨_, rfl, by simp, World.news_of_block (heap_alloc_new w0.drew.drew _)⟩⟩ (by simp [Value.oneCell']) (by unfold maxLen; omega) (by omega) (by have := HKB.out; have := HS0.out; simp; omega) ?_; intro v1 w1 hown1 hg1 hat1; obtain ⟨g, cap1, hv1, hgb, hgl⟩ := hown1.form (by omega); subst hv1; have hKeep : Hid (Keeps (fun k => k = F.p ∨ k = F.kb) w0 w1) := Keeps.trans (((Keeps.refl _ w0).drew.drew).alloc _) (Keeps.of_grown hg1 (fun k hk => .inr (by injection hk with hk; exact hk.symm))) (fun _ _ h => h); have hbx1 := ((hg1.block F.p (by simp; omega) (fun e => by injection e with e; exact hne2 e.symm)).trans (Below.heap_alloc _ _ _ (by simpa using l4))).trans HBX.out; have j0 := cellOf hbx1 1; have j1 := unfrozenOf hbx1 1; have HBX1 := hide hbx1; have HOWN1 := hide hown1; have HAT1 := hide hat1; have HG1 := hide hg1; have HGB := hide hgb; clear hbx1 hown1 hat1 hg1 hgb)
      (try dsimp only)
      refine hK.out _ _ ?_ (fun hNext => ?_)
      · try dsimp only
        (repeat (first | (with_reducible exact Keeps.refl _ _) | exact hKeep.out | exact hKeepS.out _ | assumption | (with_reducible refine Keeps.drew ?_) | (with_reducible refine Keeps.drewN ?_ _) | (with_reducible refine Keeps.alloc ?_ _) | (with_reducible refine Keeps.setCell ?_ (.inl (by first | exact .inl rfl | exact .inr rfl)) _)))
      clear hK K hHeld
      have hHeld := hNext
      clear hNext
      (try dsimp only at hHeld)
      try simp only [Act.put, zA, zB, zC, zD, zE, zF]
      refine wpAnyH_take (i := 8) (v := ?v1_14) rfl (by kernel_rfl) (by kernel_rfl) (by kernel_rfl) (fun _ _ _ h => h) (Or.inl ⟨by rfl, ?y1_14⟩) (by assumption) ?r1_14
      case' y1_14 => (intro w hSw; (try dsimp only at hSw); (try have hlS := HLK.out _ hSw); have hcS := kcell2 hSw; clear hSw; go_simp; try with_reducible rfl)
      try simp only [Act.put, zA, zB, zC, zD, zE, zF]
      refine wpAnyH_take (i := 9) (v := ?v1_15) rfl (by kernel_rfl) (by kernel_rfl) (by kernel_rfl) (fun _ _ _ h => h) (Or.inl ⟨by rfl, ?y1_15⟩) (by assumption) ?r1_15
      case' y1_15 => (intro w hSw; (try dsimp only at hSw); (try have hlS := HLK.out _ hSw); have hcS := kcell2 hSw; clear hSw; go_simp; try with_reducible rfl)
      try simp only [Act.put, zA, zB, zC, zD, zE, zF]
      refine wpAnyH_ready (rs := [10]) (by kernel_rfl) (by simp) ?_
      refine (AllReadyH.cons rfl (fun K hK => ?_) AllReadyH.nil)
      go_simp
      refine hK.out _ _ ?_ (fun hNext => ?_)
      · try dsimp only
        (repeat (first | (with_reducible exact Keeps.refl _ _) | exact hKeep.out | exact hKeepS.out _ | assumption | (with_reducible refine Keeps.drew ?_) | (with_reducible refine Keeps.drewN ?_ _) | (with_reducible refine Keeps.alloc ?_ _) | (with_reducible refine Keeps.setCell ?_ (.inl (by first | exact .inl rfl | exact .inr rfl)) _)))
      clear hK K hHeld
      have hHeld := hNext
      clear hNext
      (try dsimp only at hHeld)
      try simp only [Act.put, zA, zB, zC, zD, zE, zF]
      refine wpAnyH_done (by kernel_rfl) ?_ _
    all_goals
      generalize hw2 : World.setCell _ _ _ = w2
      clear hHeld d1 j0 j1
      have hsz1 : w0.heap.size + 1 ≤ w1.heap.size := by have := HG1.out.size; simpa using this
      have hpl1 : F.p < w1.heap.size := box_lt HBX1.out
      have hbx2 : w2.heap[F.p]? = some (.cells #[.int .i64 F.N, .slice (some ⟨g, 0, none⟩) (F.ks.length + 1) cap1, .map (some F.bk), .map (some F.bj)] 184 (0, 0)) := by
        rw [← hw2]; exact setCellOf HBX1.out _
      have hoth2 : ∀ k, k ≠ F.p → w2.heap[k]? = w1.heap[k]? := fun k hk => by rw [← hw2]; exact Below.heap_setCell _ _ _ _ hk
      have hoth1 : ∀ k, k < w0.heap.size → k ≠ F.kb → w1.heap[k]? = w0.heap[k]? := fun k hk hne => (HG1.out.block k (by simp; omega) (fun e => by injection e with e; exact hne e)).trans (Below.heap_alloc _ _ _ (by simpa using hk))
      have hs2 : w2.heap.size = w1.heap.size := by rw [← hw2]; simp [World.setCell]
      have hk2 : Keeps (fun k => k = F.p ∨ k = F.kb) w w2 := by
        rw [← hw2]
        exact ((Keeps.of_below HB0.out).trans hKeep.out (fun _ _ h => h)).setCell (.inl (.inl rfl)) _
      have hat : g = F.kb ∨ g = w0.heap.size + 1 := by
        rcases HAT1.out with e | e
        · simp [Value.ownBlock] at e; exact .inl e
        · simp [Value.ownBlock] at e; exact .inr e
      have hgne : g ≠ F.p := by omega
      have hgw : g = F.kb ∨ w.heap.size ≤ g := by omega
      have hrow2 : w2.ownsRow F.base 196 3 (.slice (some ⟨g, 0, none⟩) (F.ks.length + 1) cap1) (F.ks.length + 1) (flat F.ks.length 3 (knF F.ks) ++ [.int .i64 o, .int .i64 low, .int .i64 high]) := by
        obtain ⟨q1, ⟨q2, q3⟩ | ⟨g', cp, cur, q3, q4, q5, q6⟩⟩ := HOWN1.out
        · cases q2
        · refine ⟨q1, .inr ⟨g', cp, cur, q3, q4, ?_, q6⟩⟩
          injection q3 with q3 _ _
          injection q3 with q3
          injection q3 with q3 _ _
          subst q3
          exact (hoth2 _ hgne).trans q5
      have hbk2 : w2.heap[F.bk]? = w.heap[F.bk]? := hk2.block _ l1 (by rintro (e | e); exact n1 e.symm; exact n3 e.symm)
      have hbj2 : w2.heap[F.bj]? = w.heap[F.bj]? := hk2.block _ l2 (by rintro (e | e); exact n2 e.symm; exact n4 e.symm)
      have hkn2 := H.out.known.same hbk2
      have hbt2 : w2.heap[w.heap.size]? = some (.cells #[.int .i64 o, .int .i64 low, .int .i64 high] 196 (0, 0)) := (hoth2 _ (by omega)).trans ((hoth1 _ (by omega) (by omega)).trans HH0.out)
      have d1 := cellOf hbx2 1
      have d2 := cellOf hbx2 2
      have e0 := cellOf hbt2 0
      have e1 := cellOf hbt2 1
      have e2 := cellOf hbt2 2
      have HBX2 := hide hbx2
      have HK2 := hide hk2
      have HROW2 := hide hrow2
      have HKN2 := hide hkn2
      have HBJ2 := hide hbj2
      have HGW := hide hgw
      have hnk := H.out.nkk
      clear hw2 hbx2 hoth2 hoth1 hs2 hk2 hrow2 hbk2 hbj2 hkn2 hbt2 hgne hgw hsz1 hpl1 hat
      have hwr : IntKind.i64.wrap (F.ks.length : Int) = F.ks.length := IntWalk.i64_in _ (by omega)
      have hle1 : (0 : Int) ≤ (F.ks.length : Int) := by omega
      go_wp2_with fail
      go_still_tail 11, (by kernel_rfl)
      change wpList _ _ _ _ _ w2.drew
      refine (wpList_put _ rfl _ _ _ 181 rfl (show MapIs _ w2.drew _ _ _ _ _ _ from HKN2.out) knLaw Try.underlying181 Try.underlying3 knV_inj (by unfold maxLen; omega) ⟨o, low, high⟩ ⟨_, HK.out⟩ _ ?hwf rfl rfl rfl ?_)
      case hwf => exact wf63 (by unfold I63; omega)
      intro w4 hkn4 hg4
      have hgb4 : ∀ k, k < w2.heap.size → k ≠ F.bk → w4.heap[k]? = w2.heap[k]? := fun k hk hne => hg4.block k hk (fun e => by injection e with e; exact hne e)
      have hbx4 := (hgb4 F.p (box_lt HBX2.out) n1).trans HBX2.out
      have j1 := cellOf hbx4 1
      have HBX4 := hide hbx4
      have HKN4 := hide hkn4
      have HG4 := hide hg4
      have HGB4 := hide hgb4
      clear hbx4 hkn4 hg4 hgb4 d1 d2 e0 e1 e2
      go_wp2_with fail
      go_ret
      have hk4 : Keeps (SF F) w w4 := by
        have h1 : Keeps (SF F) w w2 := HK2.out.mono (fun i hi h => h.elim (fun e => .inl e) (fun e => .inr (.inr (.inr e))))
        have h2 : Keeps (fun k => k = F.bk) w2 w4 := ⟨HG4.out.os, HG4.out.tape, HG4.out.output, HG4.out.size, fun k hk hne => HGB4.out k hk hne⟩
        exact h1.trans h2 (fun i hi e => .inr (.inl e))
      have hsz2 : w.heap.size ≤ w2.heap.size := HK2.out.size
      have hrow4 : w4.ownsRow F.base 196 3 (.slice (some ⟨g, 0, none⟩) (F.ks.length + 1) cap1) (F.ks.length + 1) (flat F.ks.length 3 (knF F.ks) ++ [.int .i64 o, .int .i64 low, .int .i64 high]) := by
        refine World.ownsRow.kept (w := w2.drew) HROW2.out HG4.out (.inr (fun e => ?_))
        replace e : g = F.bk := by simpa [Value.ownBlock] using e
        rcases HGW.out with e1 | e1
        · exact n3 (e1.symm.trans e)
        · omega
      obtain ⟨F', hst, e1, e2, e3⟩ := H.out.grow HWF.out HGW.out HBX4.out hrow4 HKN4.out ((HGB4.out F.bj (by omega) H.out.ne1.symm).trans HBJ2.out) HNEW.out hk4 hsz
      have hget : (F.ks ++ [(⟨o, low, high⟩ : Kn)]).getD F.ks.length Kn.z = ⟨o, low, high⟩ := by simp [List.getD_eq_getElem?_getD]
      refine ⟨F.ks.length, F', rfl, hst, by rw [e1]; simp, by rw [e1]; simp, e2, e3, fun v => ?_, ?_⟩
      · rw [e1, ev_step HWF.out v H.out.wf.two (by simp)]
        unfold topK lowK highK
        rw [hget, ev_old H.out.wf _ v hl, ev_old H.out.wf _ v hh]
      · rw [e1]; unfold topK; rw [hget]; exact Nat.le_refl _
end Go.Proofs.Ytmabfnddedffoaa

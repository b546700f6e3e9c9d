/- Part 0 of this claim's texts: walks and plain laws. -/
import Derived.Below
import Derived.Laws.World
import Derived.Deep.QuietTactic
import Derived.Lib.Hide
import Derived.OwnWalk
import Derived.Laws.AppendOwn
import Derived.Deep.Slices
import Derived.Deep.AppendLies
import Derived.ProofKit
import Derived.Lib.SmallJoins
import Derived.Deep.Fields
import Derived.ChangeSame
import Derived.Test.YtmgfijadjclmpaaRows
/- Small laws of my own on worlds, for all the walks of this seat: no condition. -/
namespace Go.Proofs.Ytmgfijadjclmpaa
theorem zA {α : Type} {xs : List α} {i : Nat} (h : i < xs.toArray.size) : xs.toArray[i] = xs[i]'(by simpa using h) := List.getElem_toArray h
theorem zB {α : Type} {a : α} {xs : List α} {i : Nat} (h : i + 1 < (a :: xs).length) : (a :: xs)[i + 1] = xs[i]'(Nat.lt_of_succ_lt_succ h) := List.getElem_cons_succ ..
theorem zC {α : Type} {a : α} {xs : List α} (h : 0 < (a :: xs).length) : (a :: xs)[0] = a := List.getElem_cons_zero ..
theorem zD {α : Type} (l : List α) (i : Nat) (a : α) : l.toArray.setIfInBounds i a = (l.set i a).toArray := List.setIfInBounds_toArray ..
theorem zE {α : Type} {xs : List α} {x y : α} : (x :: xs).set 0 y = y :: xs := List.set_cons_zero
theorem zF {α : Type} {xs : List α} {n : Nat} {x y : α} : (x :: xs).set (n + 1) y = x :: xs.set n y := List.set_cons_succ
open Go.RowKit

theorem Below.drewN {B : Nat} {a w : World} (h : Below B a w) (n : Nat) : Below B a (w.drewN n) := ⟨h.os, h.tape, h.output, h.size, h.block⟩
theorem bcell {W w1 : World} (hb : Below W.heap.size W w1) : (∀ b o, b < W.heap.size → w1.cell? ⟨b, o, none⟩ = W.cell? ⟨b, o, none⟩) ∧ (∀ b o, b < W.heap.size → w1.frozen? ⟨b, o, none⟩ = W.frozen? ⟨b, o, none⟩) :=
  ⟨fun b o h => hb.cell (p := ⟨b, o, none⟩) h, fun b o h => hb.frozen (p := ⟨b, o, none⟩) h⟩
theorem Below.to {B : Nat} {a b c : World} (h : Below B a b) (k : Below b.heap.size b c) (hB : B ≤ a.heap.size) : Below B a c := h.trans (k.mono (Nat.le_trans hB h.size))
theorem Below.allocT {B : Nat} {a w : World} (h : Below B a w) (hB : B ≤ a.heap.size) (o : Obj) : Below B a (w.alloc o) := h.alloc (Nat.le_trans hB h.size) o
theorem only_drew {a w : World} {row : Option Nat} (h : a.grownBy w row) : a.grownBy w.drew row := ⟨h.os, h.tape, h.output, h.size, h.block⟩
theorem only_setCell {a w : World} {g : Nat} (h : a.grownBy w (some g)) {p : Addr} (hp : p.block = g ∨ a.heap.size ≤ p.block) (u : Value) : a.grownBy (w.setCell p u) (some g) :=
  ⟨h.os, h.tape, h.output, by simpa [World.setCell] using h.size, fun i hi hne => (Below.heap_setCell w p u i (by
    rintro rfl
    rcases hp with hp | hp
    · exact hne (by rw [hp])
    · omega)).trans (h.block i hi hne)⟩
theorem only_refl (w : World) (row : Option Nat) : w.grownBy w row := World.grownBy.refl w row
theorem only_trans {a b c : World} {row : Option Nat} (h : a.grownBy b row) (k : b.grownBy c row) : a.grownBy c row :=
  ⟨k.os.trans h.os, k.tape.trans h.tape, k.output.trans h.output, Nat.le_trans h.size k.size, fun i hi hn => (k.block i (Nat.lt_of_lt_of_le hi h.size) hn).trans (h.block i hi hn)⟩
theorem hide {p : Prop} (h : p) : Hid p := h
end Go.Proofs.Ytmgfijadjclmpaa
/- Small laws of my own on slices in memory, for all the walks of this seat: no condition. -/
namespace Go.Proofs.Ytmgfijadjclmpaa
open Go.RowKit

/-- The slice value v has n elements of sz cells each, and cell j of element i holds f i j; they lie below block B. -/
def Sl (w : World) (B sz : Nat) (v : Value) (n : Nat) (f : Nat → Nat → Value) : Prop :=
  ∃ (A : Option Addr) (b off cap : Nat), v = .slice A n cap ∧ n ≤ cap ∧ (A = some ⟨b, off, none⟩ ∧ b < B ∨ n = 0) ∧ ∀ i j, i < n → j < sz → w.cell? ⟨b, off + (i * sz + j), none⟩ = some (f i j)

theorem Sl.keep {w w' : World} {B sz n : Nat} {v : Value} {f : Nat → Nat → Value} (h : Sl w B sz v n f) (hk : ∀ b o, b < B → w'.cell? ⟨b, o, none⟩ = w.cell? ⟨b, o, none⟩) : Sl w' B sz v n f := by
  obtain ⟨A, b, off, cap, hv, hn, hA, hc⟩ := h
  refine ⟨A, b, off, cap, hv, hn, hA, fun i j hi hj => ?_⟩
  rcases hA with ⟨_, hb⟩ | h0
  · rw [hk _ _ hb]; exact hc i j hi hj
  · omega
theorem Sl.more {w : World} {B B' sz n : Nat} {v : Value} {f : Nat → Nat → Value} (h : Sl w B sz v n f) (hB : B ≤ B') : Sl w B' sz v n f := by
  obtain ⟨A, b, off, cap, hv, hn, hA, hc⟩ := h
  exact ⟨A, b, off, cap, hv, hn, hA.imp (fun ⟨a, c⟩ => ⟨a, by omega⟩) id, hc⟩
theorem Sl.below {w w' : World} {B sz n : Nat} {v : Value} {f : Nat → Nat → Value} (h : Sl w B sz v n f) (hb : Below B w w') : Sl w' B sz v n f :=
  h.keep fun b o hlt => hb.cell (p := ⟨b, o, none⟩) hlt
/-- Behind a call that changes nothing below its own heap. -/
theorem Sl.to {w w' : World} {B sz n : Nat} {v : Value} {f : Nat → Nat → Value} (h : Sl w B sz v n f) (hb : Below w.heap.size w w') (hB : B ≤ w.heap.size) : Sl w' B sz v n f := h.below (hb.mono hB)
theorem Sl.up {w w' : World} {sz n : Nat} {v : Value} {f : Nat → Nat → Value} (h : Sl w w.heap.size sz v n f) (hb : Below w.heap.size w w') : Sl w' w'.heap.size sz v n f := (h.below hb).more hb.size
theorem Sl.form {w : World} {B sz n : Nat} {v : Value} {f : Nat → Nat → Value} (h : Sl w B sz v n f) : ∃ A cap, v = .slice A n cap := by
  obtain ⟨A, b, off, cap, hv, _⟩ := h
  exact ⟨A, cap, hv⟩
theorem Sl.nil (w : World) (B sz : Nat) (f : Nat → Nat → Value) : Sl w B sz (.slice none 0 0) 0 f :=
  ⟨none, 0, 0, 0, rfl, Nat.le_refl _, .inr rfl, fun i j h => absurd h (by omega)⟩
theorem Sl.congr {w : World} {B sz n : Nat} {v : Value} {f g : Nat → Nat → Value} (h : Sl w B sz v n f) (hfg : ∀ i j, i < n → j < sz → f i j = g i j) : Sl w B sz v n g := by
  obtain ⟨A, b, off, cap, hv, hn, hA, hc⟩ := h
  exact ⟨A, b, off, cap, hv, hn, hA, fun i j hi hj => by rw [hc i j hi hj, hfg i j hi hj]⟩

/-- The place of the first element of a list of which p holds, and -1 if there is none. -/
def idxI {α : Type} (p : α → Bool) : List α → Int
  | [] => -1
  | a :: r => if p a then 0 else if idxI p r < 0 then -1 else idxI p r + 1
theorem idxI_at {α : Type} (p : α → Bool) (z : α) : ∀ (l : List α) (k : Nat), (∀ j, j < k → p (l.getD j z) = false) → k < l.length → p (l.getD k z) = true → idxI p l = k
  | [], k, _, h, _ => by simp at h
  | a :: r, 0, _, _, h => by
    have h' : p a = true := by simpa using h
    simp [idxI, h']
  | a :: r, k + 1, h, hk, hp => by
    have h0 : p a = false := by simpa using h 0 (by omega)
    have := idxI_at p z r k (fun j hj => by have := h (j + 1) (by omega); simpa using this) (by simpa using hk) (by simpa using hp)
    simp only [idxI, h0, this]
    simp
    omega
theorem idxI_none {α : Type} (p : α → Bool) (z : α) : ∀ (l : List α), (∀ j, j < l.length → p (l.getD j z) = false) → idxI p l = -1
  | [], _ => rfl
  | a :: r, h => by
    have h0 : p a = false := by simpa using h 0 (by simp)
    have := idxI_none p z r (fun j hj => by have := h (j + 1) (by simpa using hj); simpa using this)
    simp [idxI, h0, this]
theorem idxI_any {α : Type} (p : α → Bool) : ∀ (l : List α), decide (0 ≤ idxI p l) = l.any p
  | [] => by simp [idxI]
  | a :: r => by
    have ih := idxI_any p r
    cases ha : p a
    · simp only [idxI, ha, List.any_cons, Bool.false_or]
      rw [← ih]
      simp only [Bool.false_eq_true, if_false]
      split
      · rename_i hlt
        simp
        omega
      · rename_i hge
        rw [decide_eq_decide]
        omega
    · simp [idxI, ha]
theorem idxI_lo {α : Type} (p : α → Bool) : ∀ (l : List α), -1 ≤ idxI p l
  | [] => by simp [idxI]
  | a :: r => by
    have ih := idxI_lo p r
    simp only [idxI]
    split
    · omega
    · split <;> omega
theorem idxI_hi {α : Type} (p : α → Bool) : ∀ (l : List α), idxI p l ≤ l.length
  | [] => by simp [idxI]
  | a :: r => by
    have ih := idxI_hi p r
    simp only [idxI, List.length_cons]
    split
    · omega
    · split <;> omega

end Go.Proofs.Ytmgfijadjclmpaa
/- Lemmas for the frame of a law, as the guide's pages lay them for copying, and some of my own: no condition. -/
namespace Go.Proofs.Ytmgfijadjclmpaa
open Go.Joins Go.ChangeShapes Go.WideShapes Go.ChangeAt Go.RowKit Go.Deep

section
variable {H : Type} {enc : TypeId × Value → H} {P : Program}
theorem post_of_below {f : Func} {s : ChangeSpec} {apart fresh handsOn again : Bool} {W W' : World} {args : Array Value} {v : Value} {ds gs : List (DataW H)} {before pa pv : List MemPlace}
    (hW : DataW.Whole enc P f.params.toList s.vars apart W args.toList ds gs before)
    (hres : ∀ (b : Nat) (sp : Nat → Bool) (hd : Bool), DataW.TrodAll enc P W' b sp hd f.resultTypes.toList (v.resultList f.resultTypes.size) (s.fn H (ds ++ gs)).results [])
    (hargs : ∀ sp : Nat → Bool, (∀ p ∈ before, sp p.block = true) → DataW.TrodAll enc P W' 0 sp true f.params.toList args.toList (s.fn H (ds ++ gs)).args pa)
    (hvars : ∀ sp : Nat → Bool, (∀ p ∈ before, sp p.block = true) → DataW.TrodVars enc P W' sp s.vars (s.fn H (ds ++ gs)).vars pv)
    (hps : before = pa ++ pv) (hb : Below W.heap.size W W')
    (hok : ∀ (j : Nat) (t : TypeId) (r : Value), f.resultTypes[j]? = some t → (v.resultList f.resultTypes.size)[j]? = some r → Value.okWide P W' .any 0 t r) :
    s.post enc P f apart fresh handsOn again W args v W' := by
  have hlt : ∀ p ∈ before, p.block < W.heap.size := fun p hp => hW.lt p hp
  have hold : ∀ p ∈ before, (fun b => decide (b < W.heap.size)) p.block = true := fun p hp => by simpa using hlt p hp
  refine ⟨ds, gs, before, [], pa, pv, hW, hres _ _ _, hargs _ hold, hvars _ hold, World.keptBut_mono (fun p hp => ⟨hp, ?_⟩) (hb.frame (· ∈ before)), fun _ => ?_⟩
  · rw [hps, List.mem_append] at hp
    exact Or.inr hp
  · obtain ⟨_, _, _, _, _, hz, hn⟩ := hW
    refine ⟨hok, _, _, ([] ++ pa) ++ pv, ⟨[] ++ pa, pv, trodAll_append (hargs _ (fun _ _ => rfl)) (hres _ _ _), hvars _ (fun _ _ => rfl), rfl, ?_, ?_⟩, ?_⟩
    · intro b off hp
      have hin : MemPlace.cell b off ∈ before := by rw [hps]; simpa using hp
      rw [hb.frozen (hlt _ hin)]
      exact hz b off hin
    · intro ha
      have := hn ha
      rw [hps] at this
      simpa using this
    · intro p hp _
      rw [hps]
      simpa using hp

/-- Arguments read as they did, where nothing below the old heap has changed. -/
theorem trodAll_stays (hl : laidOutB P = true) {W W' : World} (hb : Below W.heap.size W W') (sp : Nat → Bool) : ∀ (ts : List TypeId) (vs : List Value) (ds : List (DataW H)) (ps : List MemPlace),
    (∀ t ∈ ts, P.readableRec t = true ∧ t < P.types.size) → DataW.TrodAll enc P W 0 (fun _ => true) true ts vs ds ps → (∀ x ∈ ps, x.block < W.heap.size) → (∀ x ∈ ps, sp x.block = true) → DataW.TrodAll enc P W' 0 sp true ts vs ds ps
  | [], [], [], _, _, h, _, _ => h
  | t :: ts, v :: vs, d :: ds, ps, hr, ⟨p, q, h1, h2, hp⟩, hlt, hsp => by
    subst hp
    refine ⟨p, q, ?_, trodAll_stays hl hb sp ts vs ds q (fun t' ht => hr t' (List.mem_cons_of_mem _ ht)) h2 (fun x hx => hlt x (List.mem_append_right _ hx)) (fun x hx => hsp x (List.mem_append_right _ hx)), rfl⟩
    have h := hr t (List.mem_cons_self ..)
    exact WideElems.Trod_stays hl h.1 h.2 h1 (fun x hx => hb.same (hlt x (List.mem_append_left _ hx))) (fun x hx => hsp x (List.mem_append_left _ hx))
end

section
variable {H : Type} {enc : TypeId × Value → H} {P : Program} {w : World} {base : Nat} {spare : Nat → Bool} {held : Bool}
end
end Go.Proofs.Ytmgfijadjclmpaa
/- A slice argument opened, whatever its elements are: each element by a law of its own. No condition. -/
namespace Go.Proofs.Ytmgfijadjclmpaa
open Go.Joins Go.ChangeShapes Go.WideShapes Go.ChangeAt Go.RowKit Go.Deep

theorem choose_upto {α : Type} (z : α) {n : Nat} {Q : Nat → α → Prop} (h : ∀ i, i < n → ∃ x, Q i x) : ∃ xs : List α, xs.length = n ∧ ∀ i, i < n → Q i (xs.getD i z) := by
  induction n with
  | zero => exact ⟨[], rfl, fun i hi => absurd hi (by omega)⟩
  | succ n ih =>
    obtain ⟨xs, hl, hx⟩ := ih fun i hi => h i (by omega)
    obtain ⟨y, hy⟩ := h n (by omega)
    refine ⟨xs ++ [y], by simp [hl], fun i hi => ?_⟩
    rcases Nat.lt_or_ge i n with h1 | h1
    · have := hx i h1
      rw [List.getD_eq_getElem?_getD, List.getElem?_append_left (by omega), ← List.getD_eq_getElem?_getD]
      exact this
    · have he : i = n := by omega
      subst he
      rw [List.getD_eq_getElem?_getD, List.getElem?_append_right (by omega), hl]
      simpa using hy

section
variable {H : Type} {enc : TypeId × Value → H} {P : Program} {w : World} {base : Nat} {spare : Nat → Bool} {held : Bool}
theorem addr_of_cell {a : Addr} {u : Value} (h : w.cell? (a.add 0) = some u) : a.spot = none ∧ a.block < w.heap.size := by
  have h' : w.cell? a = some u := h
  unfold World.cell? at h'
  cases hh : w.heap[a.block]? with
  | none => rw [hh] at h'; cases h'
  | some o =>
    refine ⟨?_, (Array.getElem?_eq_some_iff.1 hh).1⟩
    rw [hh] at h'
    cases o with
    | cells c t f =>
      simp only at h'
      cases hsp : a.spot with
      | none => rfl
      | some q => rw [if_pos (by simp [hsp])] at h'; cases h'
    | _ => cases h'
theorem cell_of_add {a : Addr} {m : Nat} {u : Value} (hs : a.spot = none) (h : w.cell? (a.add m) = some u) : w.cell? ⟨a.block, a.off + m, none⟩ = some u := by
  obtain ⟨b, o, s⟩ := a
  simp only at hs
  subst hs
  unfold Addr.add at h
  split at h
  · rename_i h0
    rw [h0]; exact h
  · exact h

theorem open_rows {α : Type} (z : α) (F : α → Nat → Value) (R : α → Prop) {t e : TypeId} {sz n : Nat} {c : Value} {y : DataW H × List MemPlace} (ht : P.underlying t = some (.slice e)) (hC : P.cellsOf e = sz) (hsz : 0 < sz)
    (hopen : ∀ (n : Nat) (cs' : List Value) (y : DataW H × List MemPlace), cs'.length = sz → DataW.trod enc P w base spare held n e cs' = some y → ∃ x : α, (∀ j, j < sz → cs'[j]? = some (F x j)) ∧ R x)
    (h : DataW.trod enc P w base spare held n t [c] = some y) :
    ∃ xs : List α, Sl w w.heap.size sz c xs.length (fun i j => F (xs.getD i z) j) ∧ xs.length ≤ maxLen ∧ ∀ i, i < xs.length → R (xs.getD i z) := by
  rcases open_slice ht h with ⟨hcs, _⟩ | ⟨a, len, cap, m, n', D, Pl, hcs, _, hl, hm, hmm, _, hel⟩
  · simp at hcs
    subst hcs
    exact ⟨[], Sl.nil _ _ _ _, by simp, fun i hi => absurd hi (by simp)⟩
  · simp at hcs
    subst hcs
    have hlm : len ≤ m := by rw [hmm]; split <;> omega
    have hx : ∀ i, i < len → ∃ x : α, (∀ j, j < sz → w.cell? (a.add (i * sz + j)) = some (F x j)) ∧ R x := by
      intro i hi
      obtain ⟨cs', hc, ht'⟩ := hel i (by omega)
      rw [hC] at hc
      obtain ⟨_, hcl, hat⟩ := World.cells?_some hc
      obtain ⟨x, hx, hr⟩ := hopen _ _ _ hcl ht'
      refine ⟨x, fun j hj => ?_, hr⟩
      rw [← Go.Deep.add_add, hat j hj]
      exact hx j hj
    obtain ⟨xs, hlen, hxs⟩ := choose_upto z hx
    refine ⟨xs, ?_, by omega, fun i hi => (hxs i (by omega)).2⟩
    rw [hlen]
    rcases Nat.eq_zero_or_pos len with h0 | h0
    · exact ⟨_, 0, 0, _, rfl, hl, .inr h0, fun i j hi => absurd hi (by omega)⟩
    · have h1 := (hxs 0 h0).1 0 hsz
      rw [Nat.zero_mul] at h1
      obtain ⟨hs, hb⟩ := addr_of_cell h1
      exact ⟨_, a.block, a.off, _, rfl, hl, .inl ⟨by rw [← hs], hb⟩, fun i j hi hj => cell_of_add hs ((hxs i hi).1 j hj)⟩
end
end Go.Proofs.Ytmgfijadjclmpaa
/- Reduced ordered diagrams: nodes, what they say, and that equal ones are one node. Plain laws. -/
namespace Go.Proofs.Ytmgfijadjclmpaa
set_option linter.unusedVariables false
/-- A node of a diagram. -/
structure Kn where
  opt : Nat
  low : Nat
  high : Nat
theorem Kn.ext' {a b : Kn} (h1 : a.opt = b.opt) (h2 : a.low = b.low) (h3 : a.high = b.high) : a = b := by cases a; cases b; simp_all
def Kn.z : Kn := ⟨0, 0, 0⟩
instance : DecidableEq Kn := fun a b => if h : a.opt = b.opt ∧ a.low = b.low ∧ a.high = b.high then isTrue (Kn.ext' h.1 h.2.1 h.2.2) else isFalse fun e => h (by subst e; exact ⟨rfl, rfl, rfl⟩)

/-- Whether a node holds for a choice of the options: followed for at most so many steps. -/
def evF (ks : List Kn) (v : Nat → Bool) : Nat → Nat → Bool
  | 0, n => n == 1
  | m + 1, n => if n < 2 then n == 1 else evF ks v m (if v (ks.getD n Kn.z).opt then (ks.getD n Kn.z).high else (ks.getD n Kn.z).low)
def ev (ks : List Kn) (v : Nat → Bool) (n : Nat) : Bool := evF ks v n n
def topK (ks : List Kn) (n : Nat) : Nat := (ks.getD n Kn.z).opt
def lowK (ks : List Kn) (n : Nat) : Nat := (ks.getD n Kn.z).low
def highK (ks : List Kn) (n : Nat) : Nat := (ks.getD n Kn.z).high

/-- The nodes of reduced diagrams over N options. -/
structure WF (N : Nat) (ks : List Kn) : Prop where
  two : 2 ≤ ks.length
  top0 : topK ks 0 = N
  top1 : topK ks 1 = N
  opt : ∀ i, 2 ≤ i → i < ks.length → topK ks i < N
  low : ∀ i, 2 ≤ i → i < ks.length → lowK ks i < i
  high : ∀ i, 2 ≤ i → i < ks.length → highK ks i < i
  ne : ∀ i, 2 ≤ i → i < ks.length → lowK ks i ≠ highK ks i
  topl : ∀ i, 2 ≤ i → i < ks.length → topK ks i < topK ks (lowK ks i)
  toph : ∀ i, 2 ≤ i → i < ks.length → topK ks i < topK ks (highK ks i)
  inj : ∀ i j, 2 ≤ i → i < ks.length → 2 ≤ j → j < ks.length → ks.getD i Kn.z = ks.getD j Kn.z → i = j

section
variable {N : Nat} {ks : List Kn} (h : WF N ks)
include h
theorem WF.top_le : ∀ i, i < ks.length → topK ks i ≤ N := by
  intro i hi
  rcases Nat.lt_or_ge i 2 with h2 | h2
  · rcases (by omega : i = 0 ∨ i = 1) with rfl | rfl
    · exact Nat.le_of_eq h.top0
    · exact Nat.le_of_eq h.top1
  · exact Nat.le_of_lt (h.opt i h2 hi)
theorem evF_fuel (v : Nat → Bool) : ∀ (m m' n : Nat), n < ks.length → n ≤ m → n ≤ m' → evF ks v m n = evF ks v m' n
  | 0, 0, n, _, _, _ => rfl
  | 0, m' + 1, n, _, h1, _ => by
    obtain rfl : n = 0 := by omega
    rfl
  | m + 1, 0, n, _, _, h1 => by
    obtain rfl : n = 0 := by omega
    rfl
  | m + 1, m' + 1, n, hn, h1, h2 => by
    simp only [evF]
    by_cases hn2 : n < 2
    · rw [if_pos hn2, if_pos hn2]
    · rw [if_neg hn2, if_neg hn2]
      have hl := h.low n (by omega) hn
      have hh := h.high n (by omega) hn
      unfold lowK at hl; unfold highK at hh
      split
      · exact evF_fuel v m m' _ (by omega) (by omega) (by omega)
      · exact evF_fuel v m m' _ (by omega) (by omega) (by omega)
omit h in
theorem ev_zero (v : Nat → Bool) : ev ks v 0 = false := rfl
omit h in
theorem ev_one (v : Nat → Bool) : ev ks v 1 = true := rfl
theorem ev_step (v : Nat → Bool) {n : Nat} (h2 : 2 ≤ n) (hn : n < ks.length) : ev ks v n = if v (topK ks n) then ev ks v (highK ks n) else ev ks v (lowK ks n) := by
  have hl := h.low n h2 hn
  have hh := h.high n h2 hn
  unfold ev
  obtain ⟨m, rfl⟩ : ∃ m, n = m + 1 := ⟨n - 1, by omega⟩
  conv => lhs; simp only [evF]
  rw [if_neg (by omega)]
  unfold topK
  cases v (ks.getD (m + 1) Kn.z).opt with
  | true =>
    simp only [if_true]
    exact evF_fuel h v _ _ _ (by unfold highK at hh; omega) (by unfold highK at hh; omega) (Nat.le_refl _)
  | false =>
    simp only [Bool.false_eq_true, if_false]
    exact evF_fuel h v _ _ _ (by unfold lowK at hl; omega) (by unfold lowK at hl; omega) (Nat.le_refl _)
/-- A node asks for its own option and later ones alone. -/
theorem ev_congr (v v' : Nat → Bool) : ∀ (n : Nat), n < ks.length → (∀ i, topK ks n ≤ i → i < N → v i = v' i) → ev ks v n = ev ks v' n := by
  intro n
  induction n using Nat.strongRecOn with
  | ind n ih =>
    intro hn hv
    rcases Nat.lt_or_ge n 2 with h2 | h2
    · rcases (by omega : n = 0 ∨ n = 1) with rfl | rfl <;> rfl
    · have hl := h.low n h2 hn
      have hh := h.high n h2 hn
      have tl := h.topl n h2 hn
      have th := h.toph n h2 hn
      rw [ev_step h v h2 hn, ev_step h v' h2 hn, hv _ (Nat.le_refl _) (h.opt n h2 hn), ih _ hl (by omega) (fun i h1 h3 => hv i (by omega) h3), ih _ hh (by omega) (fun i h1 h3 => hv i (by omega) h3)]
omit h in
def chgV (v : Nat → Bool) (o : Nat) (b : Bool) : Nat → Bool := fun i => if i = o then b else v i
/-- Where a node leads to at an option. -/
def brK (ks : List Kn) (n o : Nat) (b : Bool) : Nat := if topK ks n = o then (if b then highK ks n else lowK ks n) else n
theorem two_of_top {n o : Nat} (ht : topK ks n = o) (ho : o < N) : 2 ≤ n := by
  rcases Nat.lt_or_ge n 2 with h2 | h2
  · rcases (by omega : n = 0 ∨ n = 1) with rfl | rfl
    · rw [h.top0] at ht; omega
    · rw [h.top1] at ht; omega
  · exact h2
theorem brK_lt {n o : Nat} {b : Bool} (hn : n < ks.length) (ho : o < N) : brK ks n o b < ks.length := by
  unfold brK
  split
  · rename_i ht
    have h2 := two_of_top h ht ho
    have hl := h.low n h2 hn
    have hh := h.high n h2 hn
    split <;> omega
  · exact hn
theorem brK_ev {n o : Nat} {b : Bool} (hn : n < ks.length) (ho : o < N) (v : Nat → Bool) (hv : v o = b) : ev ks v (brK ks n o b) = ev ks v n := by
  unfold brK
  split
  · rename_i ht
    have h2 := two_of_top h ht ho
    rw [ev_step h v h2 hn, ht, hv]
    cases b <;> rfl
  · rfl
theorem brK_top {n o : Nat} {b : Bool} (hn : n < ks.length) (ho : o < N) (hle : o ≤ topK ks n) : o + 1 ≤ topK ks (brK ks n o b) := by
  unfold brK
  split
  · rename_i ht
    have h2 := two_of_top h ht ho
    have tl := h.topl n h2 hn
    have th := h.toph n h2 hn
    split <;> omega
  · omega
end

/-! more nodes -/
theorem getD_old {ks : List Kn} (e : List Kn) {n : Nat} (hn : n < ks.length) : (ks ++ e).getD n Kn.z = ks.getD n Kn.z := by
  simp [List.getD_eq_getElem?_getD, List.getElem?_append_left hn]
theorem topK_old {ks : List Kn} (e : List Kn) {n : Nat} (hn : n < ks.length) : topK (ks ++ e) n = topK ks n := by unfold topK; rw [getD_old e hn]
theorem lowK_old {ks : List Kn} (e : List Kn) {n : Nat} (hn : n < ks.length) : lowK (ks ++ e) n = lowK ks n := by unfold lowK; rw [getD_old e hn]
theorem highK_old {ks : List Kn} (e : List Kn) {n : Nat} (hn : n < ks.length) : highK (ks ++ e) n = highK ks n := by unfold highK; rw [getD_old e hn]
theorem evF_old {N : Nat} {ks : List Kn} (h : WF N ks) (e : List Kn) (v : Nat → Bool) : ∀ (m n : Nat), n < ks.length → evF (ks ++ e) v m n = evF ks v m n
  | 0, n, _ => rfl
  | m + 1, n, hn => by
    simp only [evF]
    rw [getD_old e hn]
    by_cases h2 : n < 2
    · rw [if_pos h2, if_pos h2]
    · rw [if_neg h2, if_neg h2]
      have hl := h.low n (by omega) hn
      have hh := h.high n (by omega) hn
      unfold lowK at hl; unfold highK at hh
      split
      · exact evF_old h e v m _ (by omega)
      · exact evF_old h e v m _ (by omega)
theorem ev_old {N : Nat} {ks : List Kn} (h : WF N ks) (e : List Kn) (v : Nat → Bool) {n : Nat} (hn : n < ks.length) : ev (ks ++ e) v n = ev ks v n := evF_old h e v n n hn
theorem WF.snoc {N : Nat} {ks : List Kn} (h : WF N ks) {k : Kn} (ho : k.opt < N) (hl : k.low < ks.length) (hh : k.high < ks.length) (hne : k.low ≠ k.high) (tl : k.opt < topK ks k.low) (th : k.opt < topK ks k.high) (hnew : ∀ i, 2 ≤ i → i < ks.length → ks.getD i Kn.z ≠ k) : WF N (ks ++ [k]) := by
  have hlen : (ks ++ [k]).length = ks.length + 1 := by simp
  have hget : (ks ++ [k]).getD ks.length Kn.z = k := by simp [List.getD_eq_getElem?_getD]
  have hw := h.two
  refine ⟨by omega, by rw [topK_old _ (by omega)]; exact h.top0, by rw [topK_old _ (by omega)]; exact h.top1, ?_, ?_, ?_, ?_, ?_, ?_, ?_⟩
  · intro i h2 hi
    rcases Nat.lt_or_ge i ks.length with hlt | hge
    · rw [topK_old _ hlt]; exact h.opt i h2 hlt
    · obtain rfl : i = ks.length := by omega
      unfold topK; rw [hget]; exact ho
  · intro i h2 hi
    rcases Nat.lt_or_ge i ks.length with hlt | hge
    · rw [lowK_old _ hlt]; exact h.low i h2 hlt
    · obtain rfl : i = ks.length := by omega
      unfold lowK; rw [hget]; exact hl
  · intro i h2 hi
    rcases Nat.lt_or_ge i ks.length with hlt | hge
    · rw [highK_old _ hlt]; exact h.high i h2 hlt
    · obtain rfl : i = ks.length := by omega
      unfold highK; rw [hget]; exact hh
  · intro i h2 hi
    rcases Nat.lt_or_ge i ks.length with hlt | hge
    · rw [lowK_old _ hlt, highK_old _ hlt]; exact h.ne i h2 hlt
    · obtain rfl : i = ks.length := by omega
      unfold lowK highK; rw [hget]; exact hne
  · intro i h2 hi
    rcases Nat.lt_or_ge i ks.length with hlt | hge
    · have := h.low i h2 hlt
      rw [topK_old _ hlt, lowK_old _ hlt, topK_old _ (by omega)]; exact h.topl i h2 hlt
    · obtain rfl : i = ks.length := by omega
      have e1 : topK (ks ++ [k]) ks.length = k.opt := by unfold topK; rw [hget]
      have e2 : lowK (ks ++ [k]) ks.length = k.low := by unfold lowK; rw [hget]
      rw [e1, e2, topK_old _ hl]; exact tl
  · intro i h2 hi
    rcases Nat.lt_or_ge i ks.length with hlt | hge
    · have := h.high i h2 hlt
      rw [topK_old _ hlt, highK_old _ hlt, topK_old _ (by omega)]; exact h.toph i h2 hlt
    · obtain rfl : i = ks.length := by omega
      have e1 : topK (ks ++ [k]) ks.length = k.opt := by unfold topK; rw [hget]
      have e2 : highK (ks ++ [k]) ks.length = k.high := by unfold highK; rw [hget]
      rw [e1, e2, topK_old _ hh]; exact th
  · intro i j h2 hi h3 hj he
    rcases Nat.lt_or_ge i ks.length with hlt | hge
    · rcases Nat.lt_or_ge j ks.length with hlt' | hge'
      · rw [getD_old _ hlt, getD_old _ hlt'] at he; exact h.inj i j h2 hlt h3 hlt' he
      · obtain rfl : j = ks.length := by omega
        rw [getD_old _ hlt, hget] at he
        exact absurd he (hnew i h2 hlt)
    · obtain rfl : i = ks.length := by omega
      rcases Nat.lt_or_ge j ks.length with hlt' | hge'
      · rw [getD_old _ hlt', hget] at he
        exact absurd he.symm (hnew j h3 hlt')
      · omega
theorem WF.start (N : Nat) : WF N [⟨N, 0, 0⟩, ⟨N, 0, 0⟩] := by
  refine ⟨by simp, rfl, rfl, ?_, ?_, ?_, ?_, ?_, ?_, ?_⟩ <;> intro i <;> intros <;> simp at * <;> omega
end Go.Proofs.Ytmgfijadjclmpaa
/- Variants in order; which of them a node holds in, and how many. Plain laws. -/
namespace Go.Proofs.Ytmgfijadjclmpaa
set_option linter.unusedVariables false
/-- What a list of choices says of an option. -/
def vf (l : List Bool) : Nat → Bool := fun i => l.getD i false
/-- All variants that begin with a list, in order. -/
def exts : Nat → List Bool → List (List Bool)
  | 0, l => [l]
  | k + 1, l => exts k (l ++ [false]) ++ exts k (l ++ [true])
theorem exts_map : ∀ (k : Nat) (l m : List Bool), exts k (l ++ m) = (exts k m).map (l ++ ·)
  | 0, l, m => rfl
  | k + 1, l, m => by
    simp only [exts, List.map_append]
    rw [List.append_assoc, List.append_assoc, exts_map k l, exts_map k l]
theorem exts_nil (k : Nat) (l : List Bool) : exts k l = (exts k []).map (l ++ ·) := by
  have := exts_map k l []
  rwa [List.append_nil] at this
theorem exts_len : ∀ (k : Nat) (l x : List Bool), x ∈ exts k l → x.length = l.length + k
  | 0, l, x, h => by simp [exts] at h; subst h; rfl
  | k + 1, l, x, h => by
    simp only [exts, List.mem_append] at h
    rcases h with h | h <;> have := exts_len k _ x h <;> simp at this <;> omega
theorem exts_length : ∀ (k : Nat) (l : List Bool), (exts k l).length = 2 ^ k
  | 0, l => rfl
  | k + 1, l => by simp only [exts, List.length_append, exts_length k]; omega
theorem exts_prefix {k : Nat} {l x : List Bool} (h : x ∈ exts k l) : ∃ y, x = l ++ y ∧ y.length = k := by
  rw [exts_nil, List.mem_map] at h
  obtain ⟨y, hy, rfl⟩ := h
  exact ⟨y, rfl, by simpa using exts_len k [] y hy⟩
theorem vf_at (l : List Bool) (b : Bool) (y : List Bool) : vf (l ++ [b] ++ y) l.length = b := by
  simp [vf, List.getD_eq_getElem?_getD]
theorem vf_right {l y : List Bool} {i : Nat} (hi : l.length ≤ i) : vf (l ++ y) i = vf y (i - l.length) := by
  simp [vf, List.getD_eq_getElem?_getD, List.getElem?_append_right hi]

/-- The variants in which a node holds that begin with a list. -/
def sat (ks : List Kn) (N n : Nat) (l : List Bool) : List (List Bool) := (exts (N - l.length) l).filter fun x => ev ks (vf x) n
theorem sat_zero (ks : List Kn) (N : Nat) (l : List Bool) : sat ks N 0 l = [] := by
  unfold sat; rw [List.filter_eq_nil_iff]; intro x _; simp [ev_zero]
theorem sat_one (ks : List Kn) (N : Nat) (l : List Bool) : sat ks N 1 l = exts (N - l.length) l := by
  unfold sat; rw [List.filter_eq_self]; intro x _; simp [ev_one]
theorem sat_split {ks : List Kn} {N n : Nat} {l : List Bool} (hl : l.length < N) : sat ks N n l = sat ks N n (l ++ [false]) ++ sat ks N n (l ++ [true]) := by
  unfold sat
  rw [show N - l.length = (N - (l ++ [false]).length) + 1 from by simp; omega]
  simp only [exts, List.filter_append, List.length_append, List.length_singleton]
section
variable {N : Nat} {ks : List Kn} (h : WF N ks)
include h
theorem sat_br {n : Nat} {l : List Bool} {b : Bool} (hn : n < ks.length) (hl : l.length < N) : sat ks N (brK ks n l.length b) (l ++ [b]) = sat ks N n (l ++ [b]) := by
  unfold sat
  refine List.filter_congr fun x hx => ?_
  obtain ⟨y, rfl, _⟩ := exts_prefix hx
  exact brK_ev h hn hl _ (vf_at l b y)
theorem sat_step {n : Nat} {l : List Bool} (hn : n < ks.length) (hl : l.length < N) : sat ks N n l = sat ks N (brK ks n l.length false) (l ++ [false]) ++ sat ks N (brK ks n l.length true) (l ++ [true]) := by
  rw [sat_split hl, sat_br h hn hl, sat_br h hn hl]
theorem sat_len {n : Nat} {l l' : List Bool} (hn : n < ks.length) (he : l.length = l'.length) (hl : l.length ≤ topK ks n) : (sat ks N n l).length = (sat ks N n l').length := by
  unfold sat
  rw [exts_nil _ l, exts_nil _ l', List.filter_map, List.filter_map, List.length_map, List.length_map, he]
  congr 1
  refine List.filter_congr fun x hx => ?_
  refine ev_congr h _ _ n hn fun i h1 h2 => ?_
  show vf (l ++ x) i = vf (l' ++ x) i
  rw [vf_right (by omega), vf_right (by omega), he]
omit h in
/-- In how many variants of the options from one on a node holds. -/
def cntK (ks : List Kn) (N n o : Nat) : Nat := (sat ks N n (List.replicate o false)).length
omit h in
theorem cntK_zero (o : Nat) : cntK ks N 0 o = 0 := by unfold cntK; rw [sat_zero]; rfl
theorem cntK_lift {n : Nat} (hn : n < ks.length) : ∀ (k o : Nat), o + k = topK ks n → cntK ks N n o = cntK ks N n (topK ks n) * 2 ^ k
  | 0, o, ho => by rw [show o = topK ks n from by omega]; simp
  | k + 1, o, ho => by
    have ht := h.top_le n hn
    have ih := cntK_lift hn k (o + 1) (by omega)
    unfold cntK at ih ⊢
    rw [sat_split (by simp; omega), List.length_append, sat_len h hn (l' := List.replicate (o + 1) false) (by simp) (by simp; omega), sat_len h hn (l := List.replicate o false ++ [true]) (l' := List.replicate (o + 1) false) (by simp) (by simp; omega), ih, Nat.pow_succ, ← Nat.mul_assoc]
    omega
omit h in
theorem cntK_one : cntK ks N 1 N = 1 := by
  unfold cntK; rw [sat_one, exts_length]; simp
theorem cntK_node {n : Nat} (h2 : 2 ≤ n) (hn : n < ks.length) : cntK ks N n (topK ks n) = cntK ks N (lowK ks n) (topK ks n + 1) + cntK ks N (highK ks n) (topK ks n + 1) := by
  have ht := h.opt n h2 hn
  have hl := h.low n h2 hn
  have hh := h.high n h2 hn
  have tl := h.topl n h2 hn
  have th := h.toph n h2 hn
  unfold cntK
  rw [sat_step h hn (by simpa using ht), List.length_append, List.length_replicate]
  have e1 : brK ks n (topK ks n) false = lowK ks n := by unfold brK; rw [if_pos rfl]; rfl
  have e2 : brK ks n (topK ks n) true = highK ks n := by unfold brK; rw [if_pos rfl]; rfl
  rw [e1, e2, sat_len h (by omega) (l' := List.replicate (topK ks n + 1) false) (by simp) (by simp; omega), sat_len h (n := highK ks n) (by omega) (l' := List.replicate (topK ks n + 1) false) (by simp) (by simp; omega)]
end
theorem cntK_le (ks : List Kn) (N n o : Nat) : cntK ks N n o ≤ 2 ^ (N - o) := by
  unfold cntK sat
  refine Nat.le_trans (List.length_filter_le _ _) ?_
  rw [exts_length]; simp
/-! more nodes change nothing -/
end Go.Proofs.Ytmgfijadjclmpaa
/- Formulas: which are valid, what they say. Plain laws. -/
namespace Go.Proofs.Ytmgfijadjclmpaa
set_option linter.unusedVariables false
/-- How many operands a number of a formula has. -/
def arO (o : Int) : Nat := if o = -3 then 1 else if o = -4 ∨ o = -5 ∨ o = -6 then 2 else 0
/-- Whether numbers are so many terms, one after the other. -/
def vld (N : Nat) : Nat → List Int → Bool
  | 0, [] => true
  | _ + 1, [] => false
  | 0, _ :: _ => false
  | w + 1, o :: r => decide (-6 ≤ o) && decide (o < N) && vld N (w + arO o) r
def validF (N : Nat) (f : List Int) : Bool := vld N 1 f && decide (f.length ≤ 100)
/-- What one number does to the values of the terms behind it. -/
def stp (v : Nat → Bool) (o : Int) (S : List Bool) : List Bool :=
  if o = -1 then true :: S
  else if o = -2 then false :: S
  else if o = -3 then (!S.headD false) :: S.drop 1
  else if o = -4 then (S.headD false && (S.drop 1).headD false) :: S.drop 2
  else if o = -5 then (S.headD false || (S.drop 1).headD false) :: S.drop 2
  else if o = -6 then (S.headD false == (S.drop 1).headD false) :: S.drop 2
  else v o.toNat :: S
def evS (v : Nat → Bool) (f : List Int) : List Bool := f.foldr (stp v) []
/-- Whether a formula holds. -/
def evF1 (v : Nat → Bool) (f : List Int) : Bool := (evS v f).headD false
theorem evS_cons (v : Nat → Bool) (o : Int) (r : List Int) : evS v (o :: r) = stp v o (evS v r) := rfl
theorem evS_len {N : Nat} (v : Nat → Bool) : ∀ (f : List Int) (w : Nat), vld N w f = true → (evS v f).length = w
  | [], 0, _ => rfl
  | [], w + 1, h => by simp [vld] at h
  | o :: r, 0, h => by simp [vld] at h
  | o :: r, w + 1, h => by
    simp only [vld, Bool.and_eq_true, decide_eq_true_eq] at h
    have ih := evS_len v r _ h.2
    rw [evS_cons]
    unfold stp arO at *
    repeat' split at ih
    all_goals (repeat' split)
    all_goals (simp only [List.length_cons, List.length_drop, ih]; try omega)
theorem vld_drop {N : Nat} : ∀ (f : List Int) (w : Nat), vld N w f = true → ∀ k, k ≤ f.length → ∃ w', vld N w' (f.drop k) = true
  | f, w, h, 0, _ => ⟨w, h⟩
  | [], w, h, k + 1, hk => by simp at hk
  | o :: r, 0, h, k + 1, _ => by simp [vld] at h
  | o :: r, w + 1, h, k + 1, hk => by
    simp only [vld, Bool.and_eq_true, decide_eq_true_eq] at h
    exact vld_drop r _ h.2 k (by simpa using hk)
theorem vld_le {N : Nat} : ∀ (f : List Int) (w : Nat), vld N w f = true → w ≤ f.length
  | [], 0, _ => Nat.le_refl _
  | [], w + 1, h => by simp [vld] at h
  | o :: r, 0, h => Nat.zero_le _
  | o :: r, w + 1, h => by
    simp only [vld, Bool.and_eq_true, decide_eq_true_eq] at h
    have := vld_le r _ h.2
    simp only [List.length_cons]; omega
/-- What is known of a number of a valid formula. -/
theorem vld_at {N : Nat} {f : List Int} {w k : Nat} (h : vld N w f = true) (hk : k < f.length) : ∃ w', vld N (w' + 1) (f.drop k) = true ∧ vld N (w' + arO (f.getD k 0)) (f.drop (k + 1)) = true ∧ -6 ≤ f.getD k 0 ∧ f.getD k 0 < N := by
  obtain ⟨w1, h1⟩ := vld_drop f w h k (by omega)
  have hd : f.drop k = f.getD k 0 :: f.drop (k + 1) := by
    rw [List.drop_eq_getElem_cons hk, List.getD_eq_getElem?_getD, List.getElem?_eq_getElem hk]; rfl
  rw [hd] at h1
  match w1, h1 with
  | 0, h1 => simp [vld] at h1
  | w1 + 1, h1 =>
    refine ⟨w1, by rw [hd]; exact h1, ?_⟩
    simp only [vld, Bool.and_eq_true, decide_eq_true_eq] at h1
    exact ⟨h1.2, h1.1.1, h1.1.2⟩
theorem drop_getD {f : List Int} {k : Nat} (hk : k < f.length) : f.drop k = f.getD k 0 :: f.drop (k + 1) := by
  rw [List.drop_eq_getElem_cons hk, List.getD_eq_getElem?_getD, List.getElem?_eq_getElem hk]; rfl
theorem validF_pos {N : Nat} {f : List Int} (h : validF N f = true) : 1 ≤ f.length ∧ f.length ≤ 100 := by
  simp only [validF, Bool.and_eq_true, decide_eq_true_eq] at h
  refine ⟨?_, h.2⟩
  match f, h.1 with
  | [], h => simp [vld] at h
  | o :: r, _ => simp
theorem validF_one {N : Nat} {f : List Int} (h : validF N f = true) (v : Nat → Bool) : evS v f = [evF1 v f] := by
  simp only [validF, Bool.and_eq_true, decide_eq_true_eq] at h
  have := evS_len v f 1 h.1
  unfold evF1
  match hs : evS v f, this with
  | [x], _ => rfl
/-- The variants of a model in which a list of formulas holds. -/
def allF (v : Nat → Bool) (l : List (List Int)) : Bool := l.all fun f => evF1 v f
end Go.Proofs.Ytmgfijadjclmpaa

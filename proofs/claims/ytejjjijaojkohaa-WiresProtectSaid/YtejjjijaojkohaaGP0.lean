/- Part 0 of this claim's texts: walks and plain laws. -/
import Derived.Below
import Derived.Laws.World
import Derived.Deep.QuietTactic
import Derived.Lib.Hide
import Derived.OwnWalk
import Derived.Laws.AppendOwn
import Derived.Deep.Slices
import Derived.Deep.AppendLies
import Derived.ProofKit
import Derived.Lib.SmallJoins
import Derived.Deep.Fields
import Derived.ChangeSame
import Derived.Test.YtejjjijaojkohaaRows
import Derived.WalkKit
import Derived.WalkSpells
import Derived.WalkLawsBesides
import Derived.BigQuiet
import Derived.Laws.OwnMore
import Derived.Deep.Draws
import Derived.Maps.AppendAt
import Derived.RegionTactic
import Derived.StillTailTactics
import Derived.OneCell
import Derived.RangeFuncFrom
import Derived.RangeFuncNested
import Derived.RangeFuncBound
import Derived.RangeFuncCalls
import Derived.RangeFuncLeaves
import Derived.Shelf.Abstract
import Derived.Shelf.RegionOpen
import Derived.OwnWalkIn
import Derived.TacticsInMore
import Derived.LoopNIn
import Derived.LoopIn
import Derived.Sort.LoopGhostIn
/- Small laws of my own on worlds, for all the walks of this seat: no condition. -/
namespace Go.Proofs.Ytejjjijaojkohaa
open Go.RowKit

theorem Below.drewN {B : Nat} {a w : World} (h : Below B a w) (n : Nat) : Below B a (w.drewN n) := ⟨h.os, h.tape, h.output, h.size, h.block⟩
theorem bcell {W w1 : World} (hb : Below W.heap.size W w1) : (∀ b o, b < W.heap.size → w1.cell? ⟨b, o, none⟩ = W.cell? ⟨b, o, none⟩) ∧ (∀ b o, b < W.heap.size → w1.frozen? ⟨b, o, none⟩ = W.frozen? ⟨b, o, none⟩) :=
  ⟨fun b o h => hb.cell (p := ⟨b, o, none⟩) h, fun b o h => hb.frozen (p := ⟨b, o, none⟩) h⟩
theorem Below.to {B : Nat} {a b c : World} (h : Below B a b) (k : Below b.heap.size b c) (hB : B ≤ a.heap.size) : Below B a c := h.trans (k.mono (Nat.le_trans hB h.size))
theorem Below.allocT {B : Nat} {a w : World} (h : Below B a w) (hB : B ≤ a.heap.size) (o : Obj) : Below B a (w.alloc o) := h.alloc (Nat.le_trans hB h.size) o
theorem only_drewN {a w : World} {row : Option Nat} (h : a.grownBy w row) (n : Nat) : a.grownBy (w.drewN n) row := ⟨h.os, h.tape, h.output, h.size, h.block⟩
theorem only_drew {a w : World} {row : Option Nat} (h : a.grownBy w row) : a.grownBy w.drew row := ⟨h.os, h.tape, h.output, h.size, h.block⟩
theorem only_alloc {a w : World} {row : Option Nat} (h : a.grownBy w row) (o : Obj) : a.grownBy (w.alloc o) row :=
  ⟨h.os, h.tape, h.output, Nat.le_trans h.size (by simp), fun i hi hne => (Below.heap_alloc w o i (Nat.lt_of_lt_of_le hi h.size)).trans (h.block i hi hne)⟩
theorem only_setCell {a w : World} {g : Nat} (h : a.grownBy w (some g)) {p : Addr} (hp : p.block = g ∨ a.heap.size ≤ p.block) (u : Value) : a.grownBy (w.setCell p u) (some g) :=
  ⟨h.os, h.tape, h.output, by simpa [World.setCell] using h.size, fun i hi hne => (Below.heap_setCell w p u i (by
    rintro rfl
    rcases hp with hp | hp
    · exact hne (by rw [hp])
    · omega)).trans (h.block i hi hne)⟩
theorem only_setCell' {a w : World} {row : Option Nat} (h : a.grownBy w row) {p : Addr} (hp : a.heap.size ≤ p.block) (u : Value) : a.grownBy (w.setCell p u) row :=
  ⟨h.os, h.tape, h.output, by simpa [World.setCell] using h.size, fun i hi hne => (Below.heap_setCell w p u i (by omega)).trans (h.block i hi hne)⟩
theorem only_refl (w : World) (row : Option Nat) : w.grownBy w row := World.grownBy.refl w row
theorem only_below {a b w : World} {row : Option Nat} (h : a.grownBy b row) (k : Below b.heap.size b w) : a.grownBy w row :=
  ⟨k.os.trans h.os, k.tape.trans h.tape, k.output.trans h.output, Nat.le_trans h.size k.size, fun i hi hn => (k.block i (Nat.lt_of_lt_of_le hi h.size)).trans (h.block i hi hn)⟩
theorem only_trans {a b c : World} {row : Option Nat} (h : a.grownBy b row) (k : b.grownBy c row) : a.grownBy c row :=
  ⟨k.os.trans h.os, k.tape.trans h.tape, k.output.trans h.output, Nat.le_trans h.size k.size, fun i hi hn => (k.block i (Nat.lt_of_lt_of_le hi h.size) hn).trans (h.block i hi hn)⟩
/-- What changed was one block, and it is new. -/
theorem below_only {a b w : World} {g : Nat} (h : Below a.heap.size a b) (k : b.grownBy w (some g)) (hg : a.heap.size ≤ g) : Below a.heap.size a w :=
  h.grown k h.size (fun j e => by cases e; exact hg)
theorem hide {p : Prop} (h : p) : Hid p := h
end Go.Proofs.Ytejjjijaojkohaa
/- Small laws of my own on slices in memory, for all the walks of this seat: no condition. -/
namespace Go.Proofs.Ytejjjijaojkohaa
open Go.RowKit

/-- The slice value v has n elements of sz cells each, and cell j of element i holds f i j; they lie below block B. -/
def Sl (w : World) (B sz : Nat) (v : Value) (n : Nat) (f : Nat → Nat → Value) : Prop :=
  ∃ (A : Option Addr) (b off cap : Nat), v = .slice A n cap ∧ n ≤ cap ∧ (A = some ⟨b, off, none⟩ ∧ b < B ∨ n = 0) ∧ ∀ i j, i < n → j < sz → w.cell? ⟨b, off + (i * sz + j), none⟩ = some (f i j)

theorem Sl.keep {w w' : World} {B sz n : Nat} {v : Value} {f : Nat → Nat → Value} (h : Sl w B sz v n f) (hk : ∀ b o, b < B → w'.cell? ⟨b, o, none⟩ = w.cell? ⟨b, o, none⟩) : Sl w' B sz v n f := by
  obtain ⟨A, b, off, cap, hv, hn, hA, hc⟩ := h
  refine ⟨A, b, off, cap, hv, hn, hA, fun i j hi hj => ?_⟩
  rcases hA with ⟨_, hb⟩ | h0
  · rw [hk _ _ hb]; exact hc i j hi hj
  · omega
theorem Sl.more {w : World} {B B' sz n : Nat} {v : Value} {f : Nat → Nat → Value} (h : Sl w B sz v n f) (hB : B ≤ B') : Sl w B' sz v n f := by
  obtain ⟨A, b, off, cap, hv, hn, hA, hc⟩ := h
  exact ⟨A, b, off, cap, hv, hn, hA.imp (fun ⟨a, c⟩ => ⟨a, by omega⟩) id, hc⟩
theorem Sl.below {w w' : World} {B sz n : Nat} {v : Value} {f : Nat → Nat → Value} (h : Sl w B sz v n f) (hb : Below B w w') : Sl w' B sz v n f :=
  h.keep fun b o hlt => hb.cell (p := ⟨b, o, none⟩) hlt
/-- Behind a call that changes nothing below its own heap. -/
theorem Sl.to {w w' : World} {B sz n : Nat} {v : Value} {f : Nat → Nat → Value} (h : Sl w B sz v n f) (hb : Below w.heap.size w w') (hB : B ≤ w.heap.size) : Sl w' B sz v n f := h.below (hb.mono hB)
theorem Sl.up {w w' : World} {sz n : Nat} {v : Value} {f : Nat → Nat → Value} (h : Sl w w.heap.size sz v n f) (hb : Below w.heap.size w w') : Sl w' w'.heap.size sz v n f := (h.below hb).more hb.size
theorem Sl.form {w : World} {B sz n : Nat} {v : Value} {f : Nat → Nat → Value} (h : Sl w B sz v n f) : ∃ A cap, v = .slice A n cap := by
  obtain ⟨A, b, off, cap, hv, _⟩ := h
  exact ⟨A, cap, hv⟩
theorem Sl.nil (w : World) (B sz : Nat) (f : Nat → Nat → Value) : Sl w B sz (.slice none 0 0) 0 f :=
  ⟨none, 0, 0, 0, rfl, Nat.le_refl _, .inr rfl, fun i j h => absurd h (by omega)⟩
theorem Sl.congr {w : World} {B sz n : Nat} {v : Value} {f g : Nat → Nat → Value} (h : Sl w B sz v n f) (hfg : ∀ i j, i < n → j < sz → f i j = g i j) : Sl w B sz v n g := by
  obtain ⟨A, b, off, cap, hv, hn, hA, hc⟩ := h
  exact ⟨A, b, off, cap, hv, hn, hA, fun i j hi hj => by rw [hc i j hi hj, hfg i j hi hj]⟩

/-- The place of the first element of a list of which p holds, and -1 if there is none. -/
def idxI {α : Type} (p : α → Bool) : List α → Int
  | [] => -1
  | a :: r => if p a then 0 else if idxI p r < 0 then -1 else idxI p r + 1
theorem idxI_at {α : Type} (p : α → Bool) (z : α) : ∀ (l : List α) (k : Nat), (∀ j, j < k → p (l.getD j z) = false) → k < l.length → p (l.getD k z) = true → idxI p l = k
  | [], k, _, h, _ => by simp at h
  | a :: r, 0, _, _, h => by
    have h' : p a = true := by simpa using h
    simp [idxI, h']
  | a :: r, k + 1, h, hk, hp => by
    have h0 : p a = false := by simpa using h 0 (by omega)
    have := idxI_at p z r k (fun j hj => by have := h (j + 1) (by omega); simpa using this) (by simpa using hk) (by simpa using hp)
    simp only [idxI, h0, this]
    simp
    omega
theorem idxI_none {α : Type} (p : α → Bool) (z : α) : ∀ (l : List α), (∀ j, j < l.length → p (l.getD j z) = false) → idxI p l = -1
  | [], _ => rfl
  | a :: r, h => by
    have h0 : p a = false := by simpa using h 0 (by simp)
    have := idxI_none p z r (fun j hj => by have := h (j + 1) (by simpa using hj); simpa using this)
    simp [idxI, h0, this]
theorem idxI_any {α : Type} (p : α → Bool) : ∀ (l : List α), decide (0 ≤ idxI p l) = l.any p
  | [] => by simp [idxI]
  | a :: r => by
    have ih := idxI_any p r
    cases ha : p a
    · simp only [idxI, ha, List.any_cons, Bool.false_or]
      rw [← ih]
      simp only [Bool.false_eq_true, if_false]
      split
      · rename_i hlt
        simp
        omega
      · rename_i hge
        rw [decide_eq_decide]
        omega
    · simp [idxI, ha]
theorem idxI_lo {α : Type} (p : α → Bool) : ∀ (l : List α), -1 ≤ idxI p l
  | [] => by simp [idxI]
  | a :: r => by
    have ih := idxI_lo p r
    simp only [idxI]
    split
    · omega
    · split <;> omega
theorem idxI_hi {α : Type} (p : α → Bool) : ∀ (l : List α), idxI p l ≤ l.length
  | [] => by simp [idxI]
  | a :: r => by
    have ih := idxI_hi p r
    simp only [idxI, List.length_cons]
    split
    · omega
    · split <;> omega

end Go.Proofs.Ytejjjijaojkohaa
/- Lemmas for the frame of a law, as the guide's pages lay them for copying, and some of my own: no condition. -/
namespace Go.Proofs.Ytejjjijaojkohaa
open Go.Joins Go.ChangeShapes Go.WideShapes Go.ChangeAt Go.RowKit Go.Deep

section
variable {H : Type} {enc : TypeId × Value → H} {P : Program}
theorem post_of_below {f : Func} {s : ChangeSpec} {apart fresh handsOn again : Bool} {W W' : World} {args : Array Value} {v : Value} {ds gs : List (DataW H)} {before pa pv : List MemPlace}
    (hW : DataW.Whole enc P f.params.toList s.vars apart W args.toList ds gs before)
    (hres : ∀ (b : Nat) (sp : Nat → Bool) (hd : Bool), DataW.TrodAll enc P W' b sp hd f.resultTypes.toList (v.resultList f.resultTypes.size) (s.fn H (ds ++ gs)).results [])
    (hargs : ∀ sp : Nat → Bool, (∀ p ∈ before, sp p.block = true) → DataW.TrodAll enc P W' 0 sp true f.params.toList args.toList (s.fn H (ds ++ gs)).args pa)
    (hvars : ∀ sp : Nat → Bool, (∀ p ∈ before, sp p.block = true) → DataW.TrodVars enc P W' sp s.vars (s.fn H (ds ++ gs)).vars pv)
    (hps : before = pa ++ pv) (hb : Below W.heap.size W W')
    (hok : ∀ (j : Nat) (t : TypeId) (r : Value), f.resultTypes[j]? = some t → (v.resultList f.resultTypes.size)[j]? = some r → Value.okWide P W' .any 0 t r) :
    s.post enc P f apart fresh handsOn again W args v W' := by
  have hlt : ∀ p ∈ before, p.block < W.heap.size := fun p hp => hW.lt p hp
  have hold : ∀ p ∈ before, (fun b => decide (b < W.heap.size)) p.block = true := fun p hp => by simpa using hlt p hp
  refine ⟨ds, gs, before, [], pa, pv, hW, hres _ _ _, hargs _ hold, hvars _ hold, World.keptBut_mono (fun p hp => ⟨hp, ?_⟩) (hb.frame (· ∈ before)), fun _ => ?_⟩
  · rw [hps, List.mem_append] at hp
    exact Or.inr hp
  · obtain ⟨_, _, _, _, _, hz, hn⟩ := hW
    refine ⟨hok, _, _, ([] ++ pa) ++ pv, ⟨[] ++ pa, pv, trodAll_append (hargs _ (fun _ _ => rfl)) (hres _ _ _), hvars _ (fun _ _ => rfl), rfl, ?_, ?_⟩, ?_⟩
    · intro b off hp
      have hin : MemPlace.cell b off ∈ before := by rw [hps]; simpa using hp
      rw [hb.frozen (hlt _ hin)]
      exact hz b off hin
    · intro ha
      have := hn ha
      rw [hps] at this
      simpa using this
    · intro p hp _
      rw [hps]
      simpa using hp

/-- Arguments read as they did, where nothing below the old heap has changed. -/
theorem trodAll_stays (hl : laidOutB P = true) {W W' : World} (hb : Below W.heap.size W W') (sp : Nat → Bool) : ∀ (ts : List TypeId) (vs : List Value) (ds : List (DataW H)) (ps : List MemPlace),
    (∀ t ∈ ts, P.readableRec t = true ∧ t < P.types.size) → DataW.TrodAll enc P W 0 (fun _ => true) true ts vs ds ps → (∀ x ∈ ps, x.block < W.heap.size) → (∀ x ∈ ps, sp x.block = true) → DataW.TrodAll enc P W' 0 sp true ts vs ds ps
  | [], [], [], _, _, h, _, _ => h
  | t :: ts, v :: vs, d :: ds, ps, hr, ⟨p, q, h1, h2, hp⟩, hlt, hsp => by
    subst hp
    refine ⟨p, q, ?_, trodAll_stays hl hb sp ts vs ds q (fun t' ht => hr t' (List.mem_cons_of_mem _ ht)) h2 (fun x hx => hlt x (List.mem_append_right _ hx)) (fun x hx => hsp x (List.mem_append_right _ hx)), rfl⟩
    have h := hr t (List.mem_cons_self ..)
    exact WideElems.Trod_stays hl h.1 h.2 h1 (fun x hx => hb.same (hlt x (List.mem_append_left _ hx))) (fun x hx => hsp x (List.mem_append_left _ hx))
end

section
variable {H : Type} {enc : TypeId × Value → H} {P : Program} {w : World} {base : Nat} {spare : Nat → Bool} {held : Bool}
theorem open_slice_fields {t e : TypeId} {fs : Array Field} {fuel : Nat} {cs : List Value} {x : DataW H × List MemPlace} (ht : P.underlying t = some (.slice e)) (he : P.underlying e = some (.struct fs))
    (hone : oneCellFields P fs = true) (hC : P.cellsOf e = fs.size) (h : DataW.trod enc P w base spare held fuel t cs = some x) :
    (cs = [.slice none 0 0] ∧ x = (.nil, [])) ∨
    ∃ (a : Addr) (len cap m : Nat) (D : Nat → DataW H) (Pl : Nat → List MemPlace), cs = [.slice (some a) len cap] ∧ base ≤ a.block ∧ len ≤ cap ∧ cap ≤ maxLen ∧ m = (if spare a.block then cap else len) ∧
      x = (.slice ((List.range len).map D) ((List.range (m - len)).map fun j => D (len + j)), MemPlace.row a (m * fs.size) ++ (List.range m).flatMap Pl) ∧
      ∀ i, i < m → ∃ (ys : List (DataW H × List MemPlace)) (n : Nat), D i = .agg (ys.map (·.1)) ∧ Pl i = ys.flatMap (·.2) ∧ ys.length = fs.size ∧
        ∀ (j : Nat) (f : Field), fs[j]? = some f → ∃ (v : Value) (y : DataW H × List MemPlace), w.cell? (a.add (i * fs.size + j)) = some v ∧ ys[j]? = some y ∧ DataW.trod enc P w base spare held n f.type [v] = some y := by
  rcases open_slice ht h with h0 | ⟨a, len, cap, m, n, D, Pl, hcs, hb, hl, hm, hmm, hx, hi⟩
  · exact .inl h0
  · refine .inr ⟨a, len, cap, m, D, Pl, hcs, hb, hl, hm, hmm, by rw [hC] at hx; exact hx, fun i him => ?_⟩
    obtain ⟨cs', hc, ht'⟩ := hi i him
    rw [hC] at hc
    obtain ⟨ys, n', hn', hy, hlen, hyl, hf⟩ := DataW.trod_struct he ht'
    obtain ⟨_, hcl, hat⟩ := World.cells?_some hc
    simp only [Prod.mk.injEq] at hy
    refine ⟨ys, n', hy.1, hy.2, hyl, fun j f hj => ?_⟩
    obtain ⟨ho, hk⟩ := hone_of hone j f hj
    have hjl : j < fs.size := (Array.getElem?_eq_some_iff.1 hj).1
    have hcell := hat j hjl
    have hv : cs'[j]? = some (cs'[j]'(by omega)) := List.getElem?_eq_getElem (by omega)
    have h1 := hf j f hj
    rw [ho, hk] at h1
    have hone' : (cs'.drop j).take 1 = [cs'[j]'(by omega)] := by
      rw [List.drop_eq_getElem_cons (by omega)]
      rfl
    rw [hone'] at h1
    have hys : ys[j]? = some (ys[j]'(by omega)) := List.getElem?_eq_getElem (by omega)
    refine ⟨_, _, ?_, hys, h1.trans hys⟩
    rw [← Go.Deep.add_add, hcell, hv]

theorem open_agg5 {r : Reach} {b0 : Nat} {t : TypeId} {f0 f1 f2 f3 f4 : Field} {v : Value} {d : DataW H} {p : List MemPlace} (hs : P.underlying t = some (.struct #[f0, f1, f2, f3, f4])) (hone : oneCellFields P #[f0, f1, f2, f3, f4] = true) (hC : P.cellsOf t = 5)
    (hv : Value.okWide P w r b0 t v) (h : DataW.Trod enc P w base spare held t v d p) :
    ∃ (v0 v1 v2 v3 v4 : Value) (y0 y1 y2 y3 y4 : DataW H × List MemPlace) (n : Nat), v = .agg #[v0, v1, v2, v3, v4] ∧ d = .agg [y0.1, y1.1, y2.1, y3.1, y4.1] ∧ p = y0.2 ++ (y1.2 ++ (y2.2 ++ (y3.2 ++ y4.2))) ∧
      DataW.trod enc P w base spare held n f0.type [v0] = some y0 ∧ DataW.trod enc P w base spare held n f1.type [v1] = some y1 ∧ DataW.trod enc P w base spare held n f2.type [v2] = some y2 ∧ DataW.trod enc P w base spare held n f3.type [v3] = some y3 ∧ DataW.trod enc P w base spare held n f4.type [v4] = some y4 := by
  obtain ⟨cs, rfl, hsz⟩ := okWide_struct hs hv
  obtain ⟨l⟩ := cs
  match l, hsz.trans hC with
  | [c0, c1, c2, c3, c4], _ =>
    obtain ⟨fuel, hf⟩ := h
    obtain ⟨xs, n, _, hx, _, hlen, hg⟩ := DataW.trod_struct hs hf
    obtain ⟨o0, k0⟩ := hone_of hone 0 f0 rfl
    obtain ⟨o1, k1⟩ := hone_of hone 1 f1 rfl
    obtain ⟨o2, k2⟩ := hone_of hone 2 f2 rfl
    obtain ⟨o3, k3⟩ := hone_of hone 3 f3 rfl
    obtain ⟨o4, k4⟩ := hone_of hone 4 f4 rfl
    match xs, hlen with
    | [y0, y1, y2, y3, y4], _ =>
      simp only [Prod.mk.injEq] at hx
      exact ⟨c0, c1, c2, c3, c4, y0, y1, y2, y3, y4, n, rfl, by simpa using hx.1, by simpa using hx.2, by simpa [Value.cells, o0, k0] using hg 0 f0 rfl, by simpa [Value.cells, o1, k1] using hg 1 f1 rfl, by simpa [Value.cells, o2, k2] using hg 2 f2 rfl, by simpa [Value.cells, o3, k3] using hg 3 f3 rfl, by simpa [Value.cells, o4, k4] using hg 4 f4 rfl⟩
end
end Go.Proofs.Ytejjjijaojkohaa
/- A slice argument opened, whatever its elements are: each element by a law of its own. No condition. -/
namespace Go.Proofs.Ytejjjijaojkohaa
open Go.Joins Go.ChangeShapes Go.WideShapes Go.ChangeAt Go.RowKit Go.Deep

theorem choose_upto {α : Type} (z : α) {n : Nat} {Q : Nat → α → Prop} (h : ∀ i, i < n → ∃ x, Q i x) : ∃ xs : List α, xs.length = n ∧ ∀ i, i < n → Q i (xs.getD i z) := by
  induction n with
  | zero => exact ⟨[], rfl, fun i hi => absurd hi (by omega)⟩
  | succ n ih =>
    obtain ⟨xs, hl, hx⟩ := ih fun i hi => h i (by omega)
    obtain ⟨y, hy⟩ := h n (by omega)
    refine ⟨xs ++ [y], by simp [hl], fun i hi => ?_⟩
    rcases Nat.lt_or_ge i n with h1 | h1
    · have := hx i h1
      rw [List.getD_eq_getElem?_getD, List.getElem?_append_left (by omega), ← List.getD_eq_getElem?_getD]
      exact this
    · have he : i = n := by omega
      subst he
      rw [List.getD_eq_getElem?_getD, List.getElem?_append_right (by omega), hl]
      simpa using hy

section
variable {H : Type} {enc : TypeId × Value → H} {P : Program} {w : World} {base : Nat} {spare : Nat → Bool} {held : Bool}
theorem addr_of_cell {a : Addr} {u : Value} (h : w.cell? (a.add 0) = some u) : a.spot = none ∧ a.block < w.heap.size := by
  have h' : w.cell? a = some u := h
  unfold World.cell? at h'
  cases hh : w.heap[a.block]? with
  | none => rw [hh] at h'; cases h'
  | some o =>
    refine ⟨?_, (Array.getElem?_eq_some_iff.1 hh).1⟩
    rw [hh] at h'
    cases o with
    | cells c t f =>
      simp only at h'
      cases hsp : a.spot with
      | none => rfl
      | some q => rw [if_pos (by simp [hsp])] at h'; cases h'
    | _ => cases h'
theorem cell_of_add {a : Addr} {m : Nat} {u : Value} (hs : a.spot = none) (h : w.cell? (a.add m) = some u) : w.cell? ⟨a.block, a.off + m, none⟩ = some u := by
  obtain ⟨b, o, s⟩ := a
  simp only at hs
  subst hs
  unfold Addr.add at h
  split at h
  · rename_i h0
    rw [h0]; exact h
  · exact h

theorem open_rows {α : Type} (z : α) (F : α → Nat → Value) (R : α → Prop) {t e : TypeId} {sz n : Nat} {c : Value} {y : DataW H × List MemPlace} (ht : P.underlying t = some (.slice e)) (hC : P.cellsOf e = sz) (hsz : 0 < sz)
    (hopen : ∀ (n : Nat) (cs' : List Value) (y : DataW H × List MemPlace), cs'.length = sz → DataW.trod enc P w base spare held n e cs' = some y → ∃ x : α, (∀ j, j < sz → cs'[j]? = some (F x j)) ∧ R x)
    (h : DataW.trod enc P w base spare held n t [c] = some y) :
    ∃ xs : List α, Sl w w.heap.size sz c xs.length (fun i j => F (xs.getD i z) j) ∧ xs.length ≤ maxLen ∧ ∀ i, i < xs.length → R (xs.getD i z) := by
  rcases open_slice ht h with ⟨hcs, _⟩ | ⟨a, len, cap, m, n', D, Pl, hcs, _, hl, hm, hmm, _, hel⟩
  · simp at hcs
    subst hcs
    exact ⟨[], Sl.nil _ _ _ _, by simp, fun i hi => absurd hi (by simp)⟩
  · simp at hcs
    subst hcs
    have hlm : len ≤ m := by rw [hmm]; split <;> omega
    have hx : ∀ i, i < len → ∃ x : α, (∀ j, j < sz → w.cell? (a.add (i * sz + j)) = some (F x j)) ∧ R x := by
      intro i hi
      obtain ⟨cs', hc, ht'⟩ := hel i (by omega)
      rw [hC] at hc
      obtain ⟨_, hcl, hat⟩ := World.cells?_some hc
      obtain ⟨x, hx, hr⟩ := hopen _ _ _ hcl ht'
      refine ⟨x, fun j hj => ?_, hr⟩
      rw [← Go.Deep.add_add, hat j hj]
      exact hx j hj
    obtain ⟨xs, hlen, hxs⟩ := choose_upto z hx
    refine ⟨xs, ?_, by omega, fun i hi => (hxs i (by omega)).2⟩
    rw [hlen]
    rcases Nat.eq_zero_or_pos len with h0 | h0
    · exact ⟨_, 0, 0, _, rfl, hl, .inr h0, fun i j hi => absurd hi (by omega)⟩
    · have h1 := (hxs 0 h0).1 0 hsz
      rw [Nat.zero_mul] at h1
      obtain ⟨hs, hb⟩ := addr_of_cell h1
      exact ⟨_, a.block, a.off, _, rfl, hl, .inl ⟨by rw [← hs], hb⟩, fun i j hi hj => cell_of_add hs ((hxs i hi).1 j hj)⟩
end
end Go.Proofs.Ytejjjijaojkohaa
/- Plain definitions and small laws for the statements about wires: no condition. -/
namespace Go.Proofs.Ytejjjijaojkohaa
open Go.RowKit

def fromB (n lo hi : Int) : Bool := decide (lo ≤ n) && decide (n ≤ hi)
theorem fromB_iff {n lo hi : Int} : fromB n lo hi = true ↔ lo ≤ n ∧ n ≤ hi := by simp [fromB]
theorem fromB_no {n lo hi : Int} : fromB n lo hi = false ↔ ¬ (lo ≤ n ∧ n ≤ hi) := by rw [← fromB_iff]; simp

structure Ga where
  area : Int
  ohm : Int
  heat : Int
  cool : Int
  limit : Int
structure Fu where
  rating : Int
  melt : Int

def Ga.ok (g : Ga) : Bool := fromB g.area 1 10000 && fromB g.ohm 0 1000 && fromB g.heat 0 1000 && fromB g.cool 0 1024 && fromB g.limit 0 1000
structure Ga.Ok (g : Ga) : Prop where
  area0 : 1 ≤ g.area
  area1 : g.area ≤ 10000
  ohm0 : 0 ≤ g.ohm
  ohm1 : g.ohm ≤ 1000
  heat0 : 0 ≤ g.heat
  heat1 : g.heat ≤ 1000
  cool0 : 0 ≤ g.cool
  cool1 : g.cool ≤ 1024
  limit0 : 0 ≤ g.limit
  limit1 : g.limit ≤ 1000
theorem Ga.ok_iff {g : Ga} : g.ok = true ↔ g.Ok := by
  simp only [Ga.ok, Bool.and_eq_true, fromB_iff]
  exact ⟨fun ⟨⟨⟨⟨a, b⟩, c⟩, d⟩, e⟩ => ⟨a.1, a.2, b.1, b.2, c.1, c.2, d.1, d.2, e.1, e.2⟩, fun h => ⟨⟨⟨⟨⟨h.area0, h.area1⟩, h.ohm0, h.ohm1⟩, h.heat0, h.heat1⟩, h.cool0, h.cool1⟩, h.limit0, h.limit1⟩⟩

def Fu.ok (f : Fu) : Bool := fromB f.rating 0 500 && fromB f.melt 1 1000000
structure Fu.Ok (f : Fu) : Prop where
  rating0 : 0 ≤ f.rating
  rating1 : f.rating ≤ 500
  melt0 : 1 ≤ f.melt
  melt1 : f.melt ≤ 1000000
theorem Fu.ok_iff {f : Fu} : f.ok = true ↔ f.Ok := by
  simp only [Fu.ok, Bool.and_eq_true, fromB_iff]
  exact ⟨fun ⟨a, b⟩ => ⟨a.1, a.2, b.1, b.2⟩, fun h => ⟨⟨h.rating0, h.rating1⟩, h.melt0, h.melt1⟩⟩

def dropI (g : Ga) (amps len : Int) : Int := (amps * len * g.ohm + 999999) / 1000000

theorem mul_range {a b A B : Int} (ha : 0 ≤ a) (hA : a ≤ A) (hb : 0 ≤ b) (hB : b ≤ B) : 0 ≤ a * b ∧ a * b ≤ A * B :=
  ⟨Int.mul_nonneg ha hb, Int.mul_le_mul hA hB hb (by omega)⟩

theorem ret_int {k : IntKind} {a b : Int} (h : a = b) : Ending.returned (.int k a) = .returned (.int k b) := by rw [h]

theorem ret_bool {a b : Bool} (h : a = b) : Ending.returned (.bool a) = .returned (.bool b) := by rw [h]

/-- A fuse's time to open under a constant current, as a fraction in lowest terms; 0 and 0: never. -/
def blowNum (f : Fu) (amps : Int) : Int :=
  if amps ≤ f.rating then 0 else f.melt / (Nat.gcd f.melt.toNat (amps * amps - f.rating * f.rating).toNat : Int)
def blowDen (f : Fu) (amps : Int) : Int :=
  if amps ≤ f.rating then 0 else (amps * amps - f.rating * f.rating) / (Nat.gcd f.melt.toNat (amps * amps - f.rating * f.rating).toNat : Int)

theorem sq_lt {a b : Int} (hb : 0 ≤ b) (h : b < a) : 0 < a * a - b * b := by
  have h1 : b * b ≤ b * a := Int.mul_le_mul_of_nonneg_left (by omega) hb
  have h2 : b * a < a * a := Int.mul_lt_mul_of_pos_right h (by omega)
  omega
theorem sq_le {a b : Int} (ha : 0 ≤ a) (h : a ≤ b) : a * a - b * b ≤ 0 := by
  have h1 : a * a ≤ a * b := Int.mul_le_mul_of_nonneg_left h ha
  have h2 : a * b ≤ b * b := Int.mul_le_mul_of_nonneg_right h (by omega)
  omega
end Go.Proofs.Ytejjjijaojkohaa
/- What the small functions about wires compute: the walks through their code. No condition but those in each theorem. -/
namespace Go.Proofs.Ytejjjijaojkohaa
open Go.RowKit

theorem within_any (n lo hi : Int) (w : World) :
    Calls Try.prog 49 #[.int .i64 n, .int .i64 lo, .int .i64 hi] w fun e w' => e = .returned (.bool (fromB n lo hi)) ∧ w = w' := by
  by_cases h1 : lo ≤ n <;> by_cases h2 : n ≤ hi
  all_goals
    go_enter Try.func49, Try.ntmps49
    go_wp2
    go_ret
    exact ⟨by simp [fromB, h1, h2], rfl⟩

theorem from_any (n lo hi : Int) (w : World) :
    Calls Try.prog 52 #[.int .i64 n, .int .i64 lo, .int .i64 hi] w fun e w' => e = .returned (.bool (fromB n lo hi)) ∧ w = w' := by
  by_cases h1 : lo ≤ n <;> by_cases h2 : n ≤ hi
  all_goals
    go_enter Try.func52, Try.ntmps52
    go_wp2
    go_ret
    exact ⟨by simp [fromB, h1, h2], rfl⟩

theorem drop_any (g : Ga) (amps len : Int) (w : World) (hx : (0:Int) ≤ amps) (hx2 : amps ≤ 500) (hl : 0 ≤ len) (hl2 : len ≤ 1000000) (ho : 0 ≤ g.ohm) (ho2 : g.ohm ≤ 1000) :
    Calls Try.prog 50 #[.agg #[.int .i64 g.area, .int .i64 g.ohm, .int .i64 g.heat, .int .i64 g.cool, .int .i64 g.limit], .int .i64 amps, .int .i64 len] w fun e w' => e = .returned (.int .i64 (dropI g amps len)) ∧ Below w.heap.size w w' := by
  have p1 := mul_range hx hx2 hl hl2
  have p2 := mul_range p1.1 p1.2 ho ho2
  obtain ⟨p1a, p1b⟩ := p1
  obtain ⟨p2a, p2b⟩ := p2
  go_enter Try.func50, Try.ntmps50
  go_wp2
  go_ret
  exact ⟨rfl, (Below.refl _ _).alloc (Nat.le_refl _) _⟩

theorem rdrop_any (g : Ga) (amps len : Int) (w : World) (hx : (0:Int) ≤ amps) (hx2 : amps ≤ 500) (hl : 0 ≤ len) (hl2 : len ≤ 1000000) (ho : 0 ≤ g.ohm) (ho2 : g.ohm ≤ 1000) :
    Calls Try.prog 53 #[.agg #[.int .i64 g.area, .int .i64 g.ohm, .int .i64 g.heat, .int .i64 g.cool, .int .i64 g.limit], .int .i64 amps, .int .i64 len] w fun e w' => e = .returned (.int .i64 (dropI g amps len)) ∧ Below w.heap.size w w' := by
  have p1 := mul_range hx hx2 hl hl2
  have p2 := mul_range p1.1 p1.2 ho ho2
  obtain ⟨p1a, p1b⟩ := p1
  obtain ⟨p2a, p2b⟩ := p2
  go_enter Try.func53, Try.ntmps53
  go_wp2
  go_ret
  exact ⟨rfl, (Below.refl _ _).alloc (Nat.le_refl _) _⟩

theorem gauge_any (g : Ga) (w : World) :
    Calls Try.prog 51 #[.agg #[.int .i64 g.area, .int .i64 g.ohm, .int .i64 g.heat, .int .i64 g.cool, .int .i64 g.limit]] w fun e w' => e = .returned (.bool g.ok) ∧ Below w.heap.size w w' := by
  go_enter Try.func51, Try.ntmps51
  go_wp2_with (go_at_call 52; refine (from_any _ _ _ _).mono ?_; rintro e w' ⟨rfl, rfl⟩)
  all_goals
    go_ret
    exact ⟨by simp_all [Ga.ok], (Below.refl _ _).alloc (Nat.le_refl _) _⟩

theorem checkGauge_any (g : Ga) (w : World) :
    Calls Try.prog 48 #[.agg #[.int .i64 g.area, .int .i64 g.ohm, .int .i64 g.heat, .int .i64 g.cool, .int .i64 g.limit]] w fun e w' => e = .returned (.int .i64 (if g.ok then 0 else 70)) ∧ Below w.heap.size w w' := by
  go_enter Try.func48, Try.ntmps48
  go_wp2_with (go_at_call 49; refine (within_any _ _ _ _).mono ?_; rintro e w' ⟨rfl, rfl⟩)
  all_goals
    go_ret
    exact ⟨by simp_all [Ga.ok], (Below.refl _ _).alloc (Nat.le_refl _) _⟩

theorem fuse_any (f : Fu) (w : World) :
    Calls Try.prog 56 #[.agg #[.int .i64 f.rating, .int .i64 f.melt]] w fun e w' => e = .returned (.bool f.ok) ∧ Below w.heap.size w w' := by
  go_enter Try.func56, Try.ntmps56
  go_wp2_with (go_at_call 52; refine (from_any _ _ _ _).mono ?_; rintro e w' ⟨rfl, rfl⟩)
  all_goals
    go_ret
    exact ⟨by simp_all [Fu.ok], (Below.refl _ _).alloc (Nat.le_refl _) _⟩

theorem checkFuse_any (f : Fu) (w : World) :
    Calls Try.prog 54 #[.agg #[.int .i64 f.rating, .int .i64 f.melt]] w fun e w' => e = .returned (.int .i64 (if f.ok then 0 else 72)) ∧ Below w.heap.size w w' := by
  go_enter Try.func54, Try.ntmps54
  go_wp2_with (go_at_call 49; refine (within_any _ _ _ _).mono ?_; rintro e w' ⟨rfl, rfl⟩)
  all_goals
    go_ret
    exact ⟨by simp_all [Fu.ok], (Below.refl _ _).alloc (Nat.le_refl _) _⟩

theorem many_any (b : Bool) (w : World) :
    Calls Try.prog 76 #[.bool b] w fun e w' => e = .returned (.int .i64 (if b then 2 else 0)) ∧ w = w' := by
  cases b
  all_goals
    go_enter Try.func76, Try.ntmps76
    go_wp2
    go_ret
    exact ⟨rfl, rfl⟩

theorem gcd_step (p q : Nat) : Nat.gcd q (p % q) = Nat.gcd p q := by
  rw [Nat.gcd_comm p q, Nat.gcd_rec q p, Nat.gcd_comm]

theorem divisor_any (a b : Int) (w : World) (ha : 0 ≤ a) (hb : 0 ≤ b) (ha2 : a ≤ 1000000) (hb2 : b ≤ 1000000) :
    Calls Try.prog 89 #[.int .i64 a, .int .i64 b] w fun e w' => e = .returned (.int .i64 (Nat.gcd a.toNat b.toNat : Int)) ∧ Below w.heap.size w w' := by
  go_enter Try.func89, Try.ntmps89
  go_wp2
  go_loopw [0, 1] (fun x y wr => ∃ p q : Nat, p ≤ 1000000 ∧ q ≤ 1000000 ∧ x = .int .i64 p ∧ y = .int .i64 q ∧ Hid (Nat.gcd p q = Nat.gcd a.toNat b.toNat) ∧ Below w.heap.size w wr) (fun _ y _ => (intOf y).toNat)
  case atStart => exact ⟨a.toNat, b.toNat, by omega, by omega, by rw [Int.toNat_of_nonneg ha], by rw [Int.toNat_of_nonneg hb], rfl, Below.refl _ _⟩
  case round =>
    obtain ⟨p, q, hp, hq, rfl, rfl, hg, hB⟩ := hrel
    by_cases h0 : 0 < q
    · go_wp2
      go_quiet (fail)
      go_wp2
      go_roundw
      case rel => exact ⟨q, p % q, hq, by have := Nat.mod_lt p h0; omega, rfl, rfl, (gcd_step p q).trans hg.out, (by repeat (first | exact Below.refl _ _ | assumption | refine Below.drew ?_ | refine Below.drewN ?_ _ | refine Below.allocT ?_ (Nat.le_refl _) _ | refine Below.setCell ?_ (by simp <;> omega) _ | refine Below.to ?_ (by assumption) (Nat.le_refl _)))⟩
      case measure => simp [intOf]; have := Nat.mod_lt p h0; omega
    · go_wp2
      go_ret
      have hq0 : q = 0 := by omega
      exact ⟨ret_int (by rw [← hg.out, hq0, Nat.gcd_zero_right]), (by repeat (first | exact Below.refl _ _ | assumption | refine Below.drew ?_ | refine Below.drewN ?_ _ | refine Below.allocT ?_ (Nat.le_refl _) _ | refine Below.setCell ?_ (by simp <;> omega) _ | refine Below.to ?_ (by assumption) (Nat.le_refl _)))⟩

theorem gcd_any (a b : Int) (w : World) (ha : 0 ≤ a) (hb : 0 ≤ b) (ha2 : a ≤ 1000000) (hb2 : b ≤ 1000000) :
    Calls Try.prog 90 #[.int .i64 a, .int .i64 b] w fun e w' => e = .returned (.int .i64 (Nat.gcd a.toNat b.toNat : Int)) ∧ w = w' := by
  go_enter Try.func90, Try.ntmps90
  go_wp2
  go_loop [0, 1] (fun x y => ∃ p q : Nat, p ≤ 1000000 ∧ q ≤ 1000000 ∧ x = .int .i64 p ∧ y = .int .i64 q ∧ Hid (Nat.gcd p q = Nat.gcd a.toNat b.toNat)) (fun x _ => (intOf x).toNat)
  case atStart => exact ⟨a.toNat, b.toNat, by omega, by omega, by rw [Int.toNat_of_nonneg ha], by rw [Int.toNat_of_nonneg hb], rfl⟩
  case round =>
    obtain ⟨p, q, hp, hq, rfl, rfl, hg⟩ := hrel
    by_cases h0 : 0 < p
    · go_wp2
      go_round
      case rel => exact ⟨q % p, p, by have := Nat.mod_lt q h0; omega, hp, rfl, rfl, (by show Nat.gcd (q % p) p = _; rw [← Nat.gcd_rec]; exact hg.out)⟩
      case measure => simp [intOf]; have := Nat.mod_lt q h0; omega
    · go_wp2
      go_ret
      have hq0 : p = 0 := by omega
      exact ⟨ret_int (by rw [← hg.out, hq0, Nat.gcd_zero_left]), rfl⟩

theorem gcd_pos_le {m : Int} (d : Int) (hm : 1 ≤ m) : (1:Int) ≤ (Nat.gcd m.toNat d.toNat : Int) ∧ (Nat.gcd m.toNat d.toNat : Int) ≤ m := by
  have h1 := Nat.gcd_pos_of_pos_left d.toNat (show 0 < m.toNat by omega)
  have h2 := Nat.le_of_dvd (show 0 < m.toNat by omega) (Nat.gcd_dvd_left m.toNat d.toNat)
  omega

theorem blow_any (f : Fu) (amps : Int) (w : World) (hf : f.Ok) (ha : 0 ≤ amps) (ha2 : amps ≤ 500) :
    Calls Try.prog 55 #[.agg #[.int .i64 f.rating, .int .i64 f.melt], .int .i64 amps] w fun e w' => e = .returned (.tuple #[.int .i64 (blowNum f amps), .int .i64 (blowDen f amps)]) ∧ Below w.heap.size w w' := by
  have p1 := mul_range ha ha2 ha ha2
  have p2 := mul_range hf.rating0 hf.rating1 hf.rating0 hf.rating1
  obtain ⟨p1a, p1b⟩ := p1
  obtain ⟨p2a, p2b⟩ := p2
  have m0 := hf.melt0
  have m1 := hf.melt1
  by_cases hc : amps ≤ f.rating
  · have hs := sq_le ha hc
    go_enter Try.func55, Try.ntmps55
    go_wp2
    go_ret2
    exact ⟨by simp [blowNum, blowDen, hc], (by repeat (first | exact Below.refl _ _ | assumption | refine Below.drew ?_ | refine Below.drewN ?_ _ | refine Below.allocT ?_ (Nat.le_refl _) _ | refine Below.setCell ?_ (by simp <;> omega) _ | refine Below.to ?_ (by assumption) (Nat.le_refl _)))⟩
  · have hs := sq_lt hf.rating0 (show f.rating < amps by omega)
    have hg := gcd_pos_le (amps * amps - f.rating * f.rating) hf.melt0
    obtain ⟨hg1, hg2⟩ := hg
    go_enter Try.func55, Try.ntmps55
    go_wp2_with (go_at_call 89; refine (divisor_any _ _ _ (by omega) (by omega) (by omega) (by omega)).mono ?_; rintro e w' ⟨rfl, hB⟩)
    obtain ⟨hcx, hfx⟩ := bcell hB
    go_quiet (fail)
    go_wp2
    go_ret2
    exact ⟨by simp [blowNum, blowDen, show ¬ amps ≤ f.rating from by omega], (by repeat (first | exact Below.refl _ _ | assumption | refine Below.drew ?_ | refine Below.drewN ?_ _ | refine Below.allocT ?_ (Nat.le_refl _) _ | refine Below.setCell ?_ (by simp <;> omega) _ | refine Below.to ?_ (by assumption) (Nat.le_refl _)))⟩

theorem rblow_any (f : Fu) (amps : Int) (w : World) (hf : f.Ok) (ha : 0 ≤ amps) (ha2 : amps ≤ 500) :
    Calls Try.prog 57 #[.agg #[.int .i64 f.rating, .int .i64 f.melt], .int .i64 amps] w fun e w' => e = .returned (.tuple #[.int .i64 (blowNum f amps), .int .i64 (blowDen f amps)]) ∧ Below w.heap.size w w' := by
  have p1 := mul_range ha ha2 ha ha2
  have p2 := mul_range hf.rating0 hf.rating1 hf.rating0 hf.rating1
  obtain ⟨p1a, p1b⟩ := p1
  obtain ⟨p2a, p2b⟩ := p2
  have m0 := hf.melt0
  have m1 := hf.melt1
  by_cases hc : amps ≤ f.rating
  · go_enter Try.func57, Try.ntmps57
    go_wp2
    go_ret2
    exact ⟨by simp [blowNum, blowDen, hc], (by repeat (first | exact Below.refl _ _ | assumption | refine Below.drew ?_ | refine Below.drewN ?_ _ | refine Below.allocT ?_ (Nat.le_refl _) _ | refine Below.setCell ?_ (by simp <;> omega) _ | refine Below.to ?_ (by assumption) (Nat.le_refl _)))⟩
  · have hs := sq_lt hf.rating0 (show f.rating < amps by omega)
    have hg := gcd_pos_le (amps * amps - f.rating * f.rating) hf.melt0
    obtain ⟨hg1, hg2⟩ := hg
    go_enter Try.func57, Try.ntmps57
    go_wp2_with (go_at_call 90; refine (gcd_any _ _ _ (by omega) (by omega) (by omega) (by omega)).mono ?_; rintro e w' ⟨rfl, rfl⟩)
    go_quiet (fail)
    go_wp2
    go_ret2
    exact ⟨by simp [blowNum, blowDen, show ¬ amps ≤ f.rating from by omega], (by repeat (first | exact Below.refl _ _ | assumption | refine Below.drew ?_ | refine Below.drewN ?_ _ | refine Below.allocT ?_ (Nat.le_refl _) _ | refine Below.setCell ?_ (by simp <;> omega) _ | refine Below.to ?_ (by assumption) (Nat.le_refl _)))⟩

theorem earlier_any (a b c d : Int) (w : World) (ha : 0 ≤ a) (hb : 0 ≤ b) (hc : 0 ≤ c) (hd : 0 ≤ d) (ha2 : a ≤ 1000000) (hb2 : b ≤ 1000000) (hc2 : c ≤ 1000000) (hd2 : d ≤ 1000000) :
    Calls Try.prog 88 #[.int .i64 a, .int .i64 b, .int .i64 c, .int .i64 d] w fun e w' => e = .returned (.bool (decide (b ≠ 0 ∧ (d = 0 ∨ a * d < c * b)))) ∧ Below w.heap.size w w' := by
  have p1 := mul_range ha ha2 hd hd2
  have p2 := mul_range hc hc2 hb hb2
  obtain ⟨p1a, p1b⟩ := p1
  obtain ⟨p2a, p2b⟩ := p2
  by_cases h1 : b = 0
  · have hh : (b == 0) = true := by simp [h1]
    go_enter Try.func88, Try.ntmps88
    go_wp2
    go_ret
    exact ⟨by simp [h1], (by repeat (first | exact Below.refl _ _ | assumption | refine Below.drew ?_ | refine Below.drewN ?_ _ | refine Below.allocT ?_ (Nat.le_refl _) _ | refine Below.setCell ?_ (by simp <;> omega) _ | refine Below.to ?_ (by assumption) (Nat.le_refl _)))⟩
  · have hh : (b == 0) = false := by simp [h1]
    by_cases h2 : d = 0
    · have hh2 : (d == 0) = true := by simp [h2]
      go_enter Try.func88, Try.ntmps88
      go_wp2
      go_ret
      exact ⟨by simp [h1, h2], (by repeat (first | exact Below.refl _ _ | assumption | refine Below.drew ?_ | refine Below.drewN ?_ _ | refine Below.allocT ?_ (Nat.le_refl _) _ | refine Below.setCell ?_ (by simp <;> omega) _ | refine Below.to ?_ (by assumption) (Nat.le_refl _)))⟩
    · have hh2 : (d == 0) = false := by simp [h2]
      go_enter Try.func88, Try.ntmps88
      go_wp2
      go_ret
      exact ⟨by simp [h1, h2], (by repeat (first | exact Below.refl _ _ | assumption | refine Below.drew ?_ | refine Below.drewN ?_ _ | refine Below.allocT ?_ (Nat.le_refl _) _ | refine Below.setCell ?_ (by simp <;> omega) _ | refine Below.to ?_ (by assumption) (Nat.le_refl _)))⟩

end Go.Proofs.Ytejjjijaojkohaa
/- What the first error of some, and the functions over it, compute: walks. -/
namespace Go.Proofs.Ytejjjijaojkohaa
open Go.RowKit

/-- The first number of a list that is not 0, and 0 if there is none. -/
def firstNZ : List Int → Int
  | [] => 0
  | e :: r => if e = 0 then firstNZ r else e
theorem firstNZ_at : ∀ (es : List Int) (k : Nat), (∀ j, j < k → es[j]?.getD 0 = 0) → k < es.length → es[k]?.getD 0 ≠ 0 → firstNZ es = es[k]?.getD 0
  | [], k, _, h, _ => by simp at h
  | e :: r, 0, _, _, h => by simp at h; simp [firstNZ, h]
  | e :: r, k + 1, h, hk, hn => by
    have h0 := h 0 (by omega)
    simp at h0
    simp only [firstNZ, h0, if_true]
    have := firstNZ_at r k (fun j hj => by have := h (j + 1) (by omega); simpa using this) (by simpa using hk) (by simpa using hn)
    simpa using this
theorem firstNZ_none : ∀ (es : List Int), (∀ j, j < es.length → es[j]?.getD 0 = 0) → firstNZ es = 0
  | [], _ => rfl
  | e :: r, h => by
    have h0 := h 0 (by simp)
    simp at h0
    simp only [firstNZ, h0, if_true]
    exact firstNZ_none r (fun j hj => by have := h (j + 1) (by simpa using hj); simpa using this)

theorem or_any (b cap : Nat) (es : List Int) (w : World) (hn : es.length ≤ 10) (hc : ∀ i, i < es.length → w.cell? ⟨b, i, none⟩ = some (.int .i64 (es[i]?.getD 0))) :
    Calls Try.prog 91 #[.slice (some ⟨b, 0, none⟩) es.length cap] w fun e w' => e = .returned (.int .i64 (firstNZ es)) ∧ w = w' := by
  have HC := hide hc; clear hc
  go_enter Try.func91, Try.ntmps91
  go_wp2
  go_loop [5, 8] (fun _ i => ∃ k : Nat, k ≤ es.length ∧ i = .int .i64 k ∧ Hid (∀ j, j < k → es[j]?.getD 0 = 0)) (fun _ i => es.length - (intOf i).toNat)
  case atStart => exact ⟨0, Nat.zero_le _, rfl, fun j hj => by omega⟩
  case round =>
    obtain ⟨k, hk, rfl, hz⟩ := hrel
    by_cases hlt : k < es.length
    · have hck := HC.out k hlt
      obtain ⟨z, hz0⟩ : ∃ z, es[k]?.getD 0 = z := ⟨_, rfl⟩
      rw [hz0] at hck
      have HZ := hide hz0; clear hz0
      by_cases h0 : z = 0
      · have h0' : (z != 0) = false := by simp [h0]
        have H0 := hide h0; clear h0
        go_wp2
        go_round
        case rel => exact ⟨k + 1, by omega, by go_num, fun j hj => by
          rcases Nat.lt_or_ge j k with h | h
          · exact hz.out j h
          · rw [show j = k from by omega, HZ.out]; exact H0.out⟩
        case measure => simp [intOf]; omega
      · have h0' : (z != 0) = true := by simp [h0]
        have H0 := hide h0; clear h0
        go_wp2
        go_ret
        exact ⟨ret_int (by rw [firstNZ_at es k hz.out hlt (by rw [HZ.out]; exact H0.out), HZ.out]), rfl⟩
    · go_wp2
      go_ret
      exact ⟨ret_int (firstNZ_none es (fun j hj => hz.out j (by omega))).symm, rfl⟩

theorem errors_any (b cap : Nat) (es : List Int) (w : World) (hn : es.length ≤ 10) (hc : ∀ i, i < es.length → w.cell? ⟨b, i, none⟩ = some (.int .i64 (es[i]?.getD 0))) :
    Calls Try.prog 58 #[.slice (some ⟨b, 0, none⟩) es.length cap] w fun e w' => e = .returned (.int .i64 (firstNZ es)) ∧ w = w' := by
  go_enter Try.func58, Try.ntmps58
  go_wp2_with (go_at_call 91; refine (or_any b cap es _ hn hc).mono ?_; rintro e w' ⟨rfl, rfl⟩)
  go_ret
  exact ⟨rfl, rfl⟩

theorem errors2_any (b : Nat) (x y : Int) (w : World) (h0 : w.cell? ⟨b, 0, none⟩ = some (.int .i64 x)) (h1 : w.cell? ⟨b, 1, none⟩ = some (.int .i64 y)) :
    Calls Try.prog 58 #[.slice (some ⟨b, 0, none⟩) 2 2] w fun e w' => e = .returned (.int .i64 (if x = 0 then y else x)) ∧ w = w' := by
  refine (errors_any b 2 [x, y] w (by simp) ?_).mono ?_
  · intro i hi
    match i, hi with
    | 0, _ => exact h0
    | 1, _ => exact h1
  · rintro e w' ⟨rfl, rfl⟩
    refine ⟨ret_int ?_, rfl⟩
    simp only [firstNZ]
    split
    · split
      · omega
      · rfl
    · rfl

theorem errors3_any (b : Nat) (x y z : Int) (w : World) (h0 : w.cell? ⟨b, 0, none⟩ = some (.int .i64 x)) (h1 : w.cell? ⟨b, 1, none⟩ = some (.int .i64 y)) (h2 : w.cell? ⟨b, 2, none⟩ = some (.int .i64 z)) :
    Calls Try.prog 58 #[.slice (some ⟨b, 0, none⟩) 3 3] w fun e w' => e = .returned (.int .i64 (if x = 0 then if y = 0 then z else y else x)) ∧ w = w' := by
  refine (errors_any b 3 [x, y, z] w (by simp) ?_).mono ?_
  · intro i hi
    match i, hi with
    | 0, _ => exact h0
    | 1, _ => exact h1
    | 2, _ => exact h2
  · rintro e w' ⟨rfl, rfl⟩
    refine ⟨ret_int ?_, rfl⟩
    simp only [firstNZ]
    repeat' split
    all_goals first | rfl | omega

theorem errors4_any (b : Nat) (x y z u : Int) (w : World) (h0 : w.cell? ⟨b, 0, none⟩ = some (.int .i64 x)) (h1 : w.cell? ⟨b, 1, none⟩ = some (.int .i64 y)) (h2 : w.cell? ⟨b, 2, none⟩ = some (.int .i64 z)) (h3 : w.cell? ⟨b, 3, none⟩ = some (.int .i64 u)) :
    Calls Try.prog 58 #[.slice (some ⟨b, 0, none⟩) 4 4] w fun e w' => e = .returned (.int .i64 (if x = 0 then if y = 0 then if z = 0 then u else z else y else x)) ∧ w = w' := by
  refine (errors_any b 4 [x, y, z, u] w (by simp) ?_).mono ?_
  · intro i hi
    match i, hi with
    | 0, _ => exact h0
    | 1, _ => exact h1
    | 2, _ => exact h2
    | 3, _ => exact h3
  · rintro e w' ⟨rfl, rfl⟩
    refine ⟨ret_int ?_, rfl⟩
    simp only [firstNZ]
    repeat' split
    all_goals first | rfl | omega

def dropErr (g : Ga) (amps len : Int) : Int := if g.ok then if fromB amps 0 500 && fromB len 0 1000000 then 0 else 1 else 70
def dropVal (g : Ga) (amps len : Int) : Int := if g.ok && fromB amps 0 500 && fromB len 0 1000000 then dropI g amps len else 0

theorem Drop_any (g : Ga) (amps len : Int) (w : World) :
    Calls Try.prog 15 #[.agg #[.int .i64 g.area, .int .i64 g.ohm, .int .i64 g.heat, .int .i64 g.cool, .int .i64 g.limit], .int .i64 amps, .int .i64 len] w fun e w' => e = .returned (.tuple #[.int .i64 (dropVal g amps len), .int .i64 (dropErr g amps len)]) ∧ Below w.heap.size w w' := by
  by_cases hg : g.ok = true
  · have g1 := Ga.ok_iff.1 hg
    have g2 := g1.ohm0
    have g3 := g1.ohm1
    have hgi : (if g.ok = true then (0:Int) else 70) = 0 := if_pos hg
    by_cases h1 : fromB amps 0 500 = true
    · by_cases h2 : fromB len 0 1000000 = true
      · have a1 := fromB_iff.1 h1
        have a2 := fromB_iff.1 h2
        obtain ⟨a1a, a1b⟩ := a1
        obtain ⟨a2a, a2b⟩ := a2
        go_enter Try.func15, Try.ntmps15
        go_wp2_with (first
          | (go_at_call 48; refine (checkGauge_any g _).mono ?_; rw [hgi]; rintro e w' ⟨rfl, hB⟩; obtain ⟨hcx, hfx⟩ := bcell hB)
          | (go_at_call 49; refine (within_any _ _ _ _).mono ?_; rintro e w' ⟨rfl, rfl⟩)
          | (go_at_call 50; refine (drop_any g _ _ _ a1a a1b a2a a2b g2 g3).mono ?_; rintro e w' ⟨rfl, hB2⟩))
        go_ret2
        exact ⟨by simp [dropVal, dropErr, hg, h1, h2], (by repeat (first | exact Below.refl _ _ | assumption | refine Below.drew ?_ | refine Below.drewN ?_ _ | refine Below.allocT ?_ (Nat.le_refl _) _ | refine Below.setCell ?_ (by simp <;> omega) _ | refine Below.to ?_ (by assumption) (Nat.le_refl _)))⟩
      · go_enter Try.func15, Try.ntmps15
        go_wp2_with (first
          | (go_at_call 48; refine (checkGauge_any g _).mono ?_; rw [hgi]; rintro e w' ⟨rfl, hB⟩; obtain ⟨hcx, hfx⟩ := bcell hB)
          | (go_at_call 49; refine (within_any _ _ _ _).mono ?_; rintro e w' ⟨rfl, rfl⟩))
        go_ret2
        exact ⟨by simp [dropVal, dropErr, hg, h1, h2], (by repeat (first | exact Below.refl _ _ | assumption | refine Below.drew ?_ | refine Below.drewN ?_ _ | refine Below.allocT ?_ (Nat.le_refl _) _ | refine Below.setCell ?_ (by simp <;> omega) _ | refine Below.to ?_ (by assumption) (Nat.le_refl _)))⟩
    · go_enter Try.func15, Try.ntmps15
      go_wp2_with (first
        | (go_at_call 48; refine (checkGauge_any g _).mono ?_; rw [hgi]; rintro e w' ⟨rfl, hB⟩; obtain ⟨hcx, hfx⟩ := bcell hB)
        | (go_at_call 49; refine (within_any _ _ _ _).mono ?_; rintro e w' ⟨rfl, rfl⟩))
      go_ret2
      exact ⟨by simp [dropVal, dropErr, hg, h1], (by repeat (first | exact Below.refl _ _ | assumption | refine Below.drew ?_ | refine Below.drewN ?_ _ | refine Below.allocT ?_ (Nat.le_refl _) _ | refine Below.setCell ?_ (by simp <;> omega) _ | refine Below.to ?_ (by assumption) (Nat.le_refl _)))⟩
  · have hgi : (if g.ok = true then (0:Int) else 70) = 70 := if_neg hg
    go_enter Try.func15, Try.ntmps15
    go_wp2_with (go_at_call 48; refine (checkGauge_any g _).mono ?_; rw [hgi]; rintro e w' ⟨rfl, hB⟩; obtain ⟨hcx, hfx⟩ := bcell hB)
    go_ret2
    exact ⟨by simp [dropVal, dropErr, hg], (by repeat (first | exact Below.refl _ _ | assumption | refine Below.drew ?_ | refine Below.drewN ?_ _ | refine Below.allocT ?_ (Nat.le_refl _) _ | refine Below.setCell ?_ (by simp <;> omega) _ | refine Below.to ?_ (by assumption) (Nat.le_refl _)))⟩

theorem rDrop_any (g : Ga) (amps len : Int) (w : World) :
    Calls Try.prog 16 #[.agg #[.int .i64 g.area, .int .i64 g.ohm, .int .i64 g.heat, .int .i64 g.cool, .int .i64 g.limit], .int .i64 amps, .int .i64 len] w fun e w' => e = .returned (.tuple #[.int .i64 (dropVal g amps len), .int .i64 (dropErr g amps len)]) ∧ Below w.heap.size w w' := by
  by_cases hg : g.ok = true
  · have g1 := Ga.ok_iff.1 hg
    have g2 := g1.ohm0
    have g3 := g1.ohm1
    by_cases h1 : fromB amps 0 500 = true
    · by_cases h2 : fromB len 0 1000000 = true
      · have a1 := fromB_iff.1 h1
        have a2 := fromB_iff.1 h2
        obtain ⟨a1a, a1b⟩ := a1
        obtain ⟨a2a, a2b⟩ := a2
        go_enter Try.func16, Try.ntmps16
        go_wp2_with (first
          | (go_at_call 51; refine (gauge_any g _).mono ?_; rintro e w' ⟨rfl, hB⟩; obtain ⟨hcx, hfx⟩ := bcell hB)
          | (go_at_call 52; refine (from_any _ _ _ _).mono ?_; rintro e w' ⟨rfl, rfl⟩)
          | (go_at_call 53; refine (rdrop_any g _ _ _ a1a a1b a2a a2b g2 g3).mono ?_; rintro e w' ⟨rfl, hB2⟩))
        go_ret2
        exact ⟨by simp [dropVal, dropErr, hg, h1, h2], (by repeat (first | exact Below.refl _ _ | assumption | refine Below.drew ?_ | refine Below.drewN ?_ _ | refine Below.allocT ?_ (Nat.le_refl _) _ | refine Below.setCell ?_ (by simp <;> omega) _ | refine Below.to ?_ (by assumption) (Nat.le_refl _)))⟩
      · go_enter Try.func16, Try.ntmps16
        go_wp2_with (first
          | (go_at_call 51; refine (gauge_any g _).mono ?_; rintro e w' ⟨rfl, hB⟩; obtain ⟨hcx, hfx⟩ := bcell hB)
          | (go_at_call 52; refine (from_any _ _ _ _).mono ?_; rintro e w' ⟨rfl, rfl⟩))
        go_ret2
        exact ⟨by simp [dropVal, dropErr, hg, h1, h2], (by repeat (first | exact Below.refl _ _ | assumption | refine Below.drew ?_ | refine Below.drewN ?_ _ | refine Below.allocT ?_ (Nat.le_refl _) _ | refine Below.setCell ?_ (by simp <;> omega) _ | refine Below.to ?_ (by assumption) (Nat.le_refl _)))⟩
    · go_enter Try.func16, Try.ntmps16
      go_wp2_with (first
        | (go_at_call 51; refine (gauge_any g _).mono ?_; rintro e w' ⟨rfl, hB⟩; obtain ⟨hcx, hfx⟩ := bcell hB)
        | (go_at_call 52; refine (from_any _ _ _ _).mono ?_; rintro e w' ⟨rfl, rfl⟩))
      go_ret2
      exact ⟨by simp [dropVal, dropErr, hg, h1], (by repeat (first | exact Below.refl _ _ | assumption | refine Below.drew ?_ | refine Below.drewN ?_ _ | refine Below.allocT ?_ (Nat.le_refl _) _ | refine Below.setCell ?_ (by simp <;> omega) _ | refine Below.to ?_ (by assumption) (Nat.le_refl _)))⟩
  · go_enter Try.func16, Try.ntmps16
    go_wp2_with (go_at_call 51; refine (gauge_any g _).mono ?_; rintro e w' ⟨rfl, hB⟩; obtain ⟨hcx, hfx⟩ := bcell hB)
    go_ret2
    exact ⟨by simp [dropVal, dropErr, hg], (by repeat (first | exact Below.refl _ _ | assumption | refine Below.drew ?_ | refine Below.drewN ?_ _ | refine Below.allocT ?_ (Nat.le_refl _) _ | refine Below.setCell ?_ (by simp <;> omega) _ | refine Below.to ?_ (by assumption) (Nat.le_refl _)))⟩

def blowErr (f : Fu) (amps : Int) : Int := if f.ok then if fromB amps 0 500 then 0 else 1 else 72
def blowN (f : Fu) (amps : Int) : Int := if f.ok && fromB amps 0 500 then blowNum f amps else 0
def blowD (f : Fu) (amps : Int) : Int := if f.ok && fromB amps 0 500 then blowDen f amps else 0

theorem Blow_any (f : Fu) (amps : Int) (w : World) :
    Calls Try.prog 19 #[.agg #[.int .i64 f.rating, .int .i64 f.melt], .int .i64 amps] w fun e w' => e = .returned (.tuple #[.int .i64 (blowN f amps), .int .i64 (blowD f amps), .int .i64 (blowErr f amps)]) ∧ Below w.heap.size w w' := by
  by_cases hf : f.ok = true
  · have f1 := Fu.ok_iff.1 hf
    have hfi : (if f.ok = true then (0:Int) else 72) = 0 := if_pos hf
    by_cases h1 : fromB amps 0 500 = true
    · have a1 := fromB_iff.1 h1
      obtain ⟨a1a, a1b⟩ := a1
      have F1 := hide f1; clear f1
      go_enter Try.func19, Try.ntmps19
      go_wp2_with (first
        | (go_at_call 54; refine (checkFuse_any f _).mono ?_; rw [hfi]; rintro e w' ⟨rfl, hB⟩; obtain ⟨hcx, hfx⟩ := bcell hB)
        | (go_at_call 49; refine (within_any _ _ _ _).mono ?_; rintro e w' ⟨rfl, rfl⟩)
        | (go_at_call 55; refine (blow_any f _ _ F1.out a1a a1b).mono ?_; rintro e w' ⟨rfl, hB2⟩))
      go_ret3
      exact ⟨by simp [blowErr, blowN, blowD, hf, h1], (by repeat (first | exact Below.refl _ _ | assumption | refine Below.drew ?_ | refine Below.drewN ?_ _ | refine Below.allocT ?_ (Nat.le_refl _) _ | refine Below.setCell ?_ (by simp <;> omega) _ | refine Below.to ?_ (by assumption) (Nat.le_refl _)))⟩
    · go_enter Try.func19, Try.ntmps19
      go_wp2_with (first
        | (go_at_call 54; refine (checkFuse_any f _).mono ?_; rw [hfi]; rintro e w' ⟨rfl, hB⟩; obtain ⟨hcx, hfx⟩ := bcell hB)
        | (go_at_call 49; refine (within_any _ _ _ _).mono ?_; rintro e w' ⟨rfl, rfl⟩))
      go_ret3
      exact ⟨by simp [blowErr, blowN, blowD, hf, h1], (by repeat (first | exact Below.refl _ _ | assumption | refine Below.drew ?_ | refine Below.drewN ?_ _ | refine Below.allocT ?_ (Nat.le_refl _) _ | refine Below.setCell ?_ (by simp <;> omega) _ | refine Below.to ?_ (by assumption) (Nat.le_refl _)))⟩
  · have hfi : (if f.ok = true then (0:Int) else 72) = 72 := if_neg hf
    go_enter Try.func19, Try.ntmps19
    go_wp2_with (go_at_call 54; refine (checkFuse_any f _).mono ?_; rw [hfi]; rintro e w' ⟨rfl, hB⟩; obtain ⟨hcx, hfx⟩ := bcell hB)
    go_ret3
    exact ⟨by simp [blowErr, blowN, blowD, hf], (by repeat (first | exact Below.refl _ _ | assumption | refine Below.drew ?_ | refine Below.drewN ?_ _ | refine Below.allocT ?_ (Nat.le_refl _) _ | refine Below.setCell ?_ (by simp <;> omega) _ | refine Below.to ?_ (by assumption) (Nat.le_refl _)))⟩

theorem rBlow_any (f : Fu) (amps : Int) (w : World) :
    Calls Try.prog 20 #[.agg #[.int .i64 f.rating, .int .i64 f.melt], .int .i64 amps] w fun e w' => e = .returned (.tuple #[.int .i64 (blowN f amps), .int .i64 (blowD f amps), .int .i64 (blowErr f amps)]) ∧ Below w.heap.size w w' := by
  by_cases hf : f.ok = true
  · have f1 := Fu.ok_iff.1 hf
    by_cases h1 : fromB amps 0 500 = true
    · have a1 := fromB_iff.1 h1
      obtain ⟨a1a, a1b⟩ := a1
      have F1 := hide f1; clear f1
      go_enter Try.func20, Try.ntmps20
      go_wp2_with (first
        | (go_at_call 56; refine (fuse_any f _).mono ?_; rintro e w' ⟨rfl, hB⟩; obtain ⟨hcx, hfx⟩ := bcell hB)
        | (go_at_call 52; refine (from_any _ _ _ _).mono ?_; rintro e w' ⟨rfl, rfl⟩)
        | (go_at_call 57; refine (rblow_any f _ _ F1.out a1a a1b).mono ?_; rintro e w' ⟨rfl, hB2⟩))
      go_ret3
      exact ⟨by simp [blowErr, blowN, blowD, hf, h1], (by repeat (first | exact Below.refl _ _ | assumption | refine Below.drew ?_ | refine Below.drewN ?_ _ | refine Below.allocT ?_ (Nat.le_refl _) _ | refine Below.setCell ?_ (by simp <;> omega) _ | refine Below.to ?_ (by assumption) (Nat.le_refl _)))⟩
    · go_enter Try.func20, Try.ntmps20
      go_wp2_with (first
        | (go_at_call 56; refine (fuse_any f _).mono ?_; rintro e w' ⟨rfl, hB⟩; obtain ⟨hcx, hfx⟩ := bcell hB)
        | (go_at_call 52; refine (from_any _ _ _ _).mono ?_; rintro e w' ⟨rfl, rfl⟩))
      go_ret3
      exact ⟨by simp [blowErr, blowN, blowD, hf, h1], (by repeat (first | exact Below.refl _ _ | assumption | refine Below.drew ?_ | refine Below.drewN ?_ _ | refine Below.allocT ?_ (Nat.le_refl _) _ | refine Below.setCell ?_ (by simp <;> omega) _ | refine Below.to ?_ (by assumption) (Nat.le_refl _)))⟩
  · go_enter Try.func20, Try.ntmps20
    go_wp2_with (go_at_call 56; refine (fuse_any f _).mono ?_; rintro e w' ⟨rfl, hB⟩; obtain ⟨hcx, hfx⟩ := bcell hB)
    go_ret3
    exact ⟨by simp [blowErr, blowN, blowD, hf], (by repeat (first | exact Below.refl _ _ | assumption | refine Below.drew ?_ | refine Below.drewN ?_ _ | refine Below.allocT ?_ (Nat.le_refl _) _ | refine Below.setCell ?_ (by simp <;> omega) _ | refine Below.to ?_ (by assumption) (Nat.le_refl _)))⟩
end Go.Proofs.Ytejjjijaojkohaa
/- Cycles of currents: what the checks of a cycle compute: walks. -/
namespace Go.Proofs.Ytejjjijaojkohaa
open Go.RowKit

structure Cu where
  amps : Int
  secs : Int
def Cu.z : Cu := ⟨0, 0⟩
def cyF (cs : List Cu) (i j : Nat) : Value := .int .i64 (if j = 0 then (cs.getD i Cu.z).amps else (cs.getD i Cu.z).secs)
/-- The slice value v holds the cycle cs, below block B. -/
def Cyc (w : World) (B : Nat) (v : Value) (cs : List Cu) : Prop := Sl w B 2 v cs.length (cyF cs)
def Cu.ok (c : Cu) : Bool := fromB c.amps 0 500 && fromB c.secs 1 60
def cycOk (cs : List Cu) : Bool := fromB cs.length 1 6 && !(cs.any fun c => !c.ok)

def cycErr (cs : List Cu) : Int := if cycOk cs then 0 else 71

theorem badCu_any (c : Cu) (w : World) :
    Calls Try.prog 92 #[.agg #[.int .i64 c.amps, .int .i64 c.secs]] w fun e w' => e = .returned (.bool (!c.ok)) ∧ Below w.heap.size w w' := by
  go_enter Try.func92, Try.ntmps92
  go_wp2_with (go_at_call 49; refine (within_any _ _ _ _).mono ?_; rintro e w' ⟨rfl, rfl⟩)
  all_goals
    go_ret
    exact ⟨by simp_all [Cu.ok], (by repeat (first | exact Below.refl _ _ | assumption | refine Below.drew ?_ | refine Below.drewN ?_ _ | refine Below.allocT ?_ (Nat.le_refl _) _ | refine Below.setCell ?_ (by simp <;> omega) _ | refine Below.to ?_ (by assumption) (Nat.le_refl _)))⟩

theorem cyAt {w wr : World} {B b off : Nat} {A : Option Addr} {cs : List Cu} {k : Nat} (hB : Below B w wr) (hA : A = some ⟨b, off, none⟩ ∧ b < B ∨ cs.length = 0)
    (hc : ∀ i j, i < cs.length → j < 2 → w.cell? ⟨b, off + (i * 2 + j), none⟩ = some (cyF cs i j)) (hlt : k < cs.length) :
    ∃ c, Hid (cs.getD k Cu.z = c) ∧ A = some ⟨b, off, none⟩ ∧ wr.cell? ⟨b, off + k * 2, none⟩ = some (.int .i64 c.amps) ∧ wr.cell? ⟨b, off + k * 2 + 1, none⟩ = some (.int .i64 c.secs) := by
  rcases hA with ⟨hA1, hA2⟩ | hA1
  · exact ⟨_, rfl, hA1, (hB.cell (p := ⟨b, off + k * 2, none⟩) hA2).trans (hc k 0 hlt (by omega)), (hB.cell (p := ⟨b, off + k * 2 + 1, none⟩) hA2).trans (hc k 1 hlt (by omega))⟩
  · omega

theorem cyAt2 {w wr : World} {B b off : Nat} {cs : List Cu} {k : Nat} {c : Cu} (hB : Below B w wr) (hb : b < B)
    (hc : ∀ i j, i < cs.length → j < 2 → w.cell? ⟨b, off + (i * 2 + j), none⟩ = some (cyF cs i j)) (hlt : k < cs.length) (hz : cs.getD k Cu.z = c) :
    wr.cell? ⟨b, off + k * 2, none⟩ = some (.int .i64 c.amps) ∧ wr.cell? ⟨b, off + k * 2 + 1, none⟩ = some (.int .i64 c.secs) := by
  subst hz
  exact ⟨(hB.cell (p := ⟨b, off + k * 2, none⟩) hb).trans (hc k 0 hlt (by omega)), (hB.cell (p := ⟨b, off + k * 2 + 1, none⟩) hb).trans (hc k 1 hlt (by omega))⟩
theorem cyB {B b off n : Nat} {A : Option Addr} (hA : A = some ⟨b, off, none⟩ ∧ b < B ∨ n = 0) (hlt : 0 < n) : b < B := by
  rcases hA with ⟨_, h⟩ | h
  · exact h
  · omega

theorem indexCu_any (v : Value) (cs : List Cu) (w : World) (hn : cs.length ≤ 20) (h : Cyc w w.heap.size v cs) :
    Calls Try.prog 108 #[v, .func (.func 92) #[] #[]] w
      fun e w' => e = .returned (.int .i64 (idxI (fun c => !c.ok) cs)) ∧ Below w.heap.size w w' := by
  obtain ⟨A, b, off, cap, rfl, hnc, hA, hc⟩ := h
  have HC := hide hc; clear hc
  have HA := hide hA; clear hA
  go_enter Try.func108, Try.ntmps108
  go_wp2
  go_loopw [5, 8] (fun _ i wr => ∃ k : Nat, k ≤ cs.length ∧ i = .int .i64 k ∧ Hid (∀ j, j < k → (!(cs.getD j Cu.z).ok) = false) ∧ Below w.heap.size w wr) (fun _ i _ => cs.length - (intOf i).toNat)
  case atStart => exact ⟨0, Nat.zero_le _, rfl, fun j hj => by omega, Below.refl _ _⟩
  case round =>
    obtain ⟨k, hk, rfl, hz, hB⟩ := hrel
    by_cases hlt : k < cs.length
    · obtain ⟨c, HZ, hA1, h0, h1⟩ := cyAt hB HA.out HC.out hlt
      subst hA1
      by_cases hok : (!c.ok) = true
      · have HOK := hide hok
        go_wp2_with (go_at_call 92; refine (badCu_any c _).mono ?_; rw [hok]; rintro e w' ⟨rfl, hB2⟩)
        go_ret
        exact ⟨ret_int (idxI_at _ Cu.z cs k hz.out hlt (by rw [HZ.out]; exact HOK.out)).symm, (by repeat (first | exact Below.refl _ _ | assumption | refine Below.drew ?_ | refine Below.drewN ?_ _ | refine Below.allocT ?_ (Nat.le_refl _) _ | refine Below.setCell ?_ (by simp <;> omega) _ | refine Below.to ?_ (by assumption) (Nat.le_refl _)))⟩
      · have hok' : (!c.ok) = false := by simpa using hok
        clear hok
        have HOK := hide hok'
        go_wp2_with (go_at_call 92; refine (badCu_any c _).mono ?_; rw [hok']; rintro e w' ⟨rfl, hB2⟩)
        go_roundw
        case rel => exact ⟨k + 1, by omega, by go_num, fun j hj => by
          rcases Nat.lt_or_ge j k with h | h
          · exact hz.out j h
          · rw [show j = k from by omega, HZ.out]; exact HOK.out, (by repeat (first | exact Below.refl _ _ | assumption | refine Below.drew ?_ | refine Below.drewN ?_ _ | refine Below.allocT ?_ (Nat.le_refl _) _ | refine Below.setCell ?_ (by simp <;> omega) _ | refine Below.to ?_ (by assumption) (Nat.le_refl _)))⟩
        case measure => simp [intOf]; omega
    · go_wp2
      go_ret
      exact ⟨ret_int (idxI_none _ Cu.z cs (fun j hj => hz.out j (by omega))).symm, (by repeat (first | exact Below.refl _ _ | assumption | refine Below.drew ?_ | refine Below.drewN ?_ _ | refine Below.allocT ?_ (Nat.le_refl _) _ | refine Below.setCell ?_ (by simp <;> omega) _ | refine Below.to ?_ (by assumption) (Nat.le_refl _)))⟩

theorem containsCu_any (v : Value) (cs : List Cu) (w : World) (hn : cs.length ≤ 20) (h : Cyc w w.heap.size v cs) :
    Calls Try.prog 93 #[v, .func (.func 92) #[] #[]] w
      fun e w' => e = .returned (.bool (cs.any (fun c => !c.ok))) ∧ Below w.heap.size w w' := by
  have hl := idxI_lo (fun c : Cu => !c.ok) cs
  have hany := hide (idxI_any (fun c : Cu => !c.ok) cs)
  have H := hide h
  obtain ⟨A, cap, rfl⟩ := h.form
  clear h
  go_enter Try.func93, Try.ntmps93
  go_wp2_with (go_at_call 108; refine (indexCu_any _ cs _ hn H.out).mono ?_; rintro e w' ⟨rfl, hB⟩)
  go_ret
  exact ⟨ret_bool hany.out, hB⟩

theorem checkCycle_any (v : Value) (cs : List Cu) (w : World) (hn : cs.length ≤ 20) (h : Cyc w w.heap.size v cs) :
    Calls Try.prog 59 #[v] w fun e w' => e = .returned (.int .i64 (cycErr cs)) ∧ Below w.heap.size w w' := by
  have H := hide h
  obtain ⟨A, cap, rfl⟩ := h.form
  clear h
  go_enter Try.func59, Try.ntmps59
  go_wp2_with (first
    | (go_at_call 49; refine (within_any _ _ _ _).mono ?_; rintro e w' ⟨rfl, rfl⟩)
    | (go_at_call 93; refine (containsCu_any _ cs _ hn H.out).mono ?_; rintro e w' ⟨rfl, hB⟩))
  all_goals
    go_ret
    exact ⟨ret_int (by first | (simp only [cycErr, cycOk, *]; done) | (simp only [cycErr, cycOk, *]; rfl)), (by repeat (first | exact Below.refl _ _ | assumption | refine Below.drew ?_ | refine Below.drewN ?_ _ | refine Below.allocT ?_ (Nat.le_refl _) _ | refine Below.setCell ?_ (by simp <;> omega) _ | refine Below.to ?_ (by assumption) (Nat.le_refl _)))⟩

theorem any_none {α : Type} (p : α → Bool) (z : α) (l : List α) (h : ∀ j, j < l.length → p (l.getD j z) = false) : l.any p = false := by
  rw [← idxI_any, idxI_none p z l h]; rfl
theorem any_at {α : Type} (p : α → Bool) (z : α) (l : List α) (k : Nat) (hk : k < l.length) (h : p (l.getD k z) = true) : l.any p = true := by
  rw [List.any_eq_true]
  refine ⟨l[k], List.getElem_mem hk, ?_⟩
  simpa [hk] using h

theorem cycled_any (v : Value) (cs : List Cu) (w : World) (hn : cs.length ≤ 20) (h : Cyc w w.heap.size v cs) :
    Calls Try.prog 61 #[v] w fun e w' => e = .returned (.bool (cycOk cs)) ∧ Below w.heap.size w w' := by
  obtain ⟨A, b, off, cap, rfl, hnc, hA, hc⟩ := h
  have HC := hide hc; clear hc
  have HA := hide hA; clear hA
  go_enter Try.func61, Try.ntmps61
  go_wp2
  go_loop [3] (fun i => ∃ k : Nat, k ≤ cs.length ∧ i = .int .i64 k ∧ Hid (∀ j, j < k → (!(cs.getD j Cu.z).ok) = false)) (fun i => cs.length - (intOf i).toNat)
  case atStart => exact ⟨0, Nat.zero_le _, rfl, fun j hj => by omega⟩
  case round =>
    obtain ⟨k, hk, rfl, hz⟩ := hrel
    by_cases hlt : k < cs.length
    · obtain ⟨c, HZ, hA1, h0, h1⟩ := cyAt (Below.refl _ w) HA.out HC.out hlt
      subst hA1
      by_cases hok : (!c.ok) = true
      · have HOK := hide hok
        clear hok
        go_wp2_with (go_at_call 52; refine (from_any _ _ _ _).mono ?_; rintro e w' ⟨rfl, rfl⟩)
        case roundEnd =>
          exfalso
          have := HOK.out
          simp_all [Cu.ok]
        all_goals
          go_ret
          exact ⟨ret_bool (by simp only [cycOk]; rw [any_at _ Cu.z cs k hlt (by rw [HZ.out]; exact HOK.out)]; simp), (by repeat (first | exact Below.refl _ _ | assumption | refine Below.drew ?_ | refine Below.drewN ?_ _ | refine Below.allocT ?_ (Nat.le_refl _) _ | refine Below.setCell ?_ (by simp <;> omega) _ | refine Below.to ?_ (by assumption) (Nat.le_refl _)))⟩
      · have hok' : (!c.ok) = false := by simpa using hok
        clear hok
        have HOK := hide hok'
        have h2 := hok'
        simp only [Cu.ok, Bool.not_eq_false', Bool.and_eq_true] at h2
        obtain ⟨ha, hs⟩ := h2
        clear hok'
        go_wp2_with (go_at_call 52; refine (from_any _ _ _ _).mono ?_; first | rw [ha] | rw [hs]; rintro e w' ⟨rfl, rfl⟩)
        go_round
        case rel => exact ⟨k + 1, by omega, by go_num, fun j hj => by
            rcases Nat.lt_or_ge j k with h | h
            · exact hz.out j h
            · rw [show j = k from by omega, HZ.out]; exact HOK.out⟩
        case measure => simp [intOf]; omega
    · go_wp2_with (go_at_call 52; refine (from_any _ _ _ _).mono ?_; rintro e w' ⟨rfl, rfl⟩)
      go_ret
      exact ⟨ret_bool (by simp only [cycOk]; rw [any_none _ Cu.z cs (fun j hj => hz.out j (by omega))]; simp), (by repeat (first | exact Below.refl _ _ | assumption | refine Below.drew ?_ | refine Below.drewN ?_ _ | refine Below.allocT ?_ (Nat.le_refl _) _ | refine Below.setCell ?_ (by simp <;> omega) _ | refine Below.to ?_ (by assumption) (Nat.le_refl _)))⟩

theorem far_any (v : Value) (A : Option Addr) (n cap : Nat) (w : World) (hv : v = .slice A n cap) (hn : n ≤ maxLen) :
    Calls Try.prog 18 #[v] w fun e w' => e = .returned (.bool (decide (20 < n))) ∧ w = w' := by
  subst hv
  unfold maxLen at hn
  go_enter Try.func18, Try.ntmps18
  go_wp2
  go_ret
  exact ⟨ret_bool (by rw [decide_eq_decide]; omega), rfl⟩

end Go.Proofs.Ytejjjijaojkohaa
/- Lemmas on slices that read as lists and on append, as the guide's page of words lays them for copying, and bridges of my own: no condition. -/
namespace Go.Proofs.Ytejjjijaojkohaa
open Go.RowKit

theorem block_of_add (a : Addr) (n : Nat) : (a.add n).block = a.block := by unfold Addr.add; split <;> rfl
theorem add_of_add (a : Addr) (i j : Nat) : (a.add i).add j = a.add (i + j) := by
  unfold Addr.add
  by_cases hi : i = 0 <;> by_cases hj : j = 0 <;> simp [hi, hj, Nat.add_assoc]

def Reads (w : World) (B size : Nat) (A : Option Addr) (n : Nat) (xs : List Value) : Prop :=
  xs.length = n * size ∧ (0 < n → ∃ ad, A = some ad ∧ ad.block < B ∧ ∀ j u, xs[j]? = some u → w.cell? (ad.add j) = some u)

section
variable {w w' : World} {B B' size n : Nat} {A : Option Addr} {xs : List Value}
theorem Reads.none_ : Reads w B size A 0 [] := ⟨by simp, fun h => absurd h (by omega)⟩
theorem Reads.at_ {k : Nat} (h : Reads w B 1 A n xs) (hk : k < n) : ∃ ad u, A = some ad ∧ ad.block < B ∧ xs[k]? = some u ∧ w.cell? (ad.add k) = some u := by
  obtain ⟨ad, e, hb, hc⟩ := h.2 (by omega)
  have hl : k < xs.length := by have := h.1; omega
  exact ⟨ad, xs[k], e, hb, List.getElem?_eq_getElem hl, hc k _ (List.getElem?_eq_getElem hl)⟩
theorem Reads.keep (h : Reads w B size A n xs) (hk : ∀ p : Addr, p.block < B → w'.cell? p = w.cell? p) : Reads w' B size A n xs :=
  ⟨h.1, fun hn => by
    obtain ⟨ad, e, hb, hc⟩ := h.2 hn
    exact ⟨ad, e, hb, fun j u hu => (hk _ (by rw [block_of_add]; exact hb)).trans (hc j u hu)⟩⟩
theorem Reads.more (h : Reads w B size A n xs) (hB : B ≤ B') : Reads w B' size A n xs :=
  ⟨h.1, fun hn => by
    obtain ⟨ad, e, hb, hc⟩ := h.2 hn
    exact ⟨ad, e, by omega, hc⟩⟩
theorem Reads.below (h : Reads w B size A n xs) (hb : Below B w w') : Reads w' B size A n xs := h.keep fun _ hp => hb.cell hp
theorem Reads.drew (h : Reads w B size A n xs) : Reads w.drew B size A n xs := h
theorem Reads.drewN (h : Reads w B size A n xs) (k : Nat) : Reads (w.drewN k) B size A n xs := h
theorem Reads.alloc (h : Reads w B size A n xs) (hB : B ≤ w.heap.size) (o : Obj) : Reads (w.alloc o) B size A n xs := h.keep fun p hp => World.cell?_alloc_lt w o p (by omega)
theorem Reads.setCell (h : Reads w B size A n xs) {p : Addr} (hB : B ≤ p.block) (u : Value) : Reads (w.setCell p u) B size A n xs :=
  h.keep fun q hq => World.cell?_setCell_other w p q u (fun e => by subst e; omega)
theorem Reads.grown (h : Reads w B size A n xs) {row : Option Nat} (hg : w.grownBy w' row) (hB : B ≤ w.heap.size) (hr : ∀ g, row = some g → B ≤ g) : Reads w' B size A n xs :=
  h.keep fun p hp => World.cell?_of_block (hg.block p.block (by omega) (fun e => by have := hr _ e.symm; omega))
theorem Reads.cut (h : Reads w B size A n xs) {k cap : Nat} (hk : k ≤ n) (hc : n ≤ cap) :
    Reads w B size (if cap = k then A else A.map (·.add (k * size))) (n - k) (xs.drop (k * size)) := by
  refine ⟨by rw [List.length_drop, h.1, Nat.sub_mul], fun hn => ?_⟩
  obtain ⟨ad, rfl, hb, hcell⟩ := h.2 (by omega)
  rw [if_neg (by omega)]
  refine ⟨ad.add (k * size), rfl, by rw [block_of_add]; exact hb, fun j u hu => ?_⟩
  rw [add_of_add]
  exact hcell _ u (by rw [← hu, List.getElem?_drop])
theorem Reads.of_own {base : Nat} {e : TypeId} {c : Nat} (h : w.ownsRow base e size (.slice A n c) n xs) : Reads w w.heap.size size A n xs := by
  refine ⟨h.1, fun hn => ?_⟩
  obtain ⟨g, cap, hv, _, hlt⟩ := h.form hn
  have hA : A = some ⟨g, 0, none⟩ := by injection hv
  subst hA
  exact ⟨_, rfl, hlt, h.cells (g := g) rfl⟩
end

section
variable {P : Program} (w : World)

theorem run_append_of_nil (base : Nat) (t ty e : TypeId) (i : TypeInfo) (size : Nat) (ht : P.underlying t = some (.slice e)) (hi : P.info? e = some i)
    (v : Value) (n : Nat) (xs : List Value) (hown : w.ownsRow base e size v n xs) (c : Nat) : (Builtin.append_ #[t, t] ty #[v, .slice none 0 c]).run P w = .ok v w := by
  rcases hown.2 with ⟨rfl, rfl⟩ | ⟨g, cap, cur, rfl, _, _, hnc, _⟩
  · simp [Builtin.append_, run_underlying ht, sizeOf, typeInfo, hi, Builtin.lenOf, Builtin.firstCells]
  · simp [Builtin.append_, run_underlying ht, sizeOf, typeInfo, hi, Builtin.lenOf, Builtin.firstCells, hnc, storeCells]

theorem run_append_any (base : Nat) (t ty e : TypeId) (i : TypeInfo) (z : Value) (size bytes : Nat) (ht : P.underlying t = some (.slice e)) (hi : P.info? e = some i) (hz : i.zero = some z)
    (hsize : i.size = size) (hby : i.bytes = bytes) (hzs : z.cells.size = size) (hsz : 0 < size)
    (v : Value) (n : Nat) (xs : List Value) (hown : w.ownsRow base e size v n xs)
    (B : Nat) (A : Option Addr) (m c : Nat) (news : List Value) (hr : Reads w B size A m news) (h1 : ∀ u ∈ news, u.oneCell' = true)
    (h63 : n + m ≤ maxLen) (hbytes : (n + m) * bytes ≤ 140737488355328) (hbase : base ≤ w.heap.size) :
    ∃ v' w', (Builtin.append_ #[t, t] ty #[v, .slice A m c]).run P w = .ok v' w' ∧ w'.ownsRow base e size v' (n + m) (xs ++ news) ∧ w.grownBy w' v.ownBlock ∧
      (v'.ownBlock = v.ownBlock ∨ v'.ownBlock = some w.heap.size) := by
  rcases A with _ | ad
  · have hm : m = 0 := by
      rcases Nat.eq_zero_or_pos m with h0 | h0
      · exact h0
      · obtain ⟨ad, h, _⟩ := hr.2 h0
        cases h
    subst hm
    have hn : news = [] := List.eq_nil_of_length_eq_zero (by simpa using hr.1)
    subst hn
    exact ⟨v, w, run_append_of_nil w base t ty e i size ht hi v n xs hown c, by simpa using hown, World.grownBy.refl w _, .inl rfl⟩
  · have hcells : ∀ j u, news[j]? = some u → w.cell? (ad.add j) = some u := by
      intro j u hu
      rcases Nat.eq_zero_or_pos m with h0 | h0
      · subst h0
        have hn : news = [] := List.eq_nil_of_length_eq_zero (by simpa using hr.1)
        subst hn
        simp at hu
      · obtain ⟨ad', h, _, hc⟩ := hr.2 h0
        injection h with h
        subst h
        exact hc j u hu
    obtain ⟨v', w', hrun, h2, h3, _, h5⟩ := run_append_own_at (P := P) w base t ty e i z size bytes ht hi hz hsize hby hzs hsz v n xs hown ad m c news hr.1 hcells h1 h63 hbytes hbase
    exact ⟨v', w', hrun, h2, h3, h5⟩

theorem wp_append_any {o : Oper} {a : Act} {K : Act → World → Prop} {Q : Exit → Act → World → Prop} (s x : Operand) (t : TypeId)
    (ho : o.op = .call { callee := .builtin .append, args := #[s, x], argTypes := #[t, t] })
    (base : Nat) (e : TypeId) (i : TypeInfo) (z : Value) (size bytes : Nat) (ht : P.underlying t = some (.slice e)) (hi : P.info? e = some i) (hz : i.zero = some z)
    (hsize : i.size = size) (hby : i.bytes = bytes) (hzs : z.cells.size = size) (hsz : 0 < size)
    (v : Value) (n : Nat) (xs : List Value) (hs : a.eval s = v) (hown : w.ownsRow base e size v n xs)
    (B : Nat) (A : Option Addr) (m c : Nat) (news : List Value) (hx : a.eval x = .slice A m c) (hr : Reads w B size A m news) (h1 : ∀ u ∈ news, u.oneCell' = true)
    (h63 : n + m ≤ maxLen) (hbytes : (n + m) * bytes ≤ 140737488355328) (hbase : base ≤ w.heap.size)
    (h : ∀ v' w', w'.ownsRow base e size v' (n + m) (xs ++ news) → w.grownBy w' v.ownBlock → (v'.ownBlock = v.ownBlock ∨ v'.ownBlock = some w.heap.size) → K (a.put o.dst v') w') : o.wp P a w K Q := by
  obtain ⟨v', w', hrun, h2, h3, h4⟩ := run_append_any (P := P) w base t o.type e i z size bytes ht hi hz hsize hby hzs hsz v n xs hown B A m c news hr h1 h63 hbytes hbase
  unfold Oper.wp execOp
  simp only [ho, resolve, invoke, builtin, Sem.run_bind, Sem.run_pure, Result.andThen_ok, List.map_toArray, List.map_cons, List.map_nil, hs, hx, hrun]
  exact h v' w' h2 h3 h4

theorem wpList_append_any {ops : Array Oper} {rest : List Oper} {o : Oper} {a : Act} {Q : Exit → Act → World → Prop} (hgd : o.guard = none) (s x : Operand) (t : TypeId)
    (ho : o.op = .call { callee := .builtin .append, args := #[s, x], argTypes := #[t, t] })
    (base : Nat) (e : TypeId) (i : TypeInfo) (z : Value) (size bytes : Nat) (ht : P.underlying t = some (.slice e)) (hi : P.info? e = some i) (hz : i.zero = some z)
    (hsize : i.size = size) (hby : i.bytes = bytes) (hzs : z.cells.size = size) (hsz : 0 < size)
    (v : Value) (n : Nat) (xs : List Value) (hs : a.eval s = v) (hown : w.ownsRow base e size v n xs)
    (B : Nat) (A : Option Addr) (m c : Nat) (news : List Value) (hx : a.eval x = .slice A m c) (hr : Reads w B size A m news) (h1 : ∀ u ∈ news, u.oneCell' = true)
    (h63 : n + m ≤ maxLen) (hbytes : (n + m) * bytes ≤ 140737488355328) (hbase : base ≤ w.heap.size)
    (h : ∀ v' w', w'.ownsRow base e size v' (n + m) (xs ++ news) → w.grownBy w' v.ownBlock → (v'.ownBlock = v.ownBlock ∨ v'.ownBlock = some w.heap.size) → wpList P ops Q rest (a.put o.dst v') w') : wpList P ops Q (o :: rest) a w :=
  wpList_plain hgd fun _ hK => wp_append_any w s x t ho base e i z size bytes ht hi hz hsize hby hzs hsz v n xs hs hown B A m c news hx hr h1 h63 hbytes hbase fun v' w' h2 h3 h4 => hK _ _ (h v' w' h2 h3 h4)

theorem step_append_any {ops : Array Oper} {o : Oper} {a : Act} {K : Act → World → Prop} {Q : Exit → Act → World → Prop} {E : Prop} (hgd : o.guard = none) (s x : Operand) (t : TypeId)
    (ho : o.op = .call { callee := .builtin .append, args := #[s, x], argTypes := #[t, t] })
    (base : Nat) (e : TypeId) (i : TypeInfo) (z : Value) (size bytes : Nat) (ht : P.underlying t = some (.slice e)) (hi : P.info? e = some i) (hz : i.zero = some z)
    (hsize : i.size = size) (hby : i.bytes = bytes) (hzs : z.cells.size = size) (hsz : 0 < size)
    (v : Value) (n : Nat) (xs : List Value) (hs : a.eval s = v) (hown : w.ownsRow base e size v n xs)
    (B : Nat) (A : Option Addr) (m c : Nat) (news : List Value) (hx : a.eval x = .slice A m c) (hr : Reads w B size A m news) (h1 : ∀ u ∈ news, u.oneCell' = true)
    (h63 : n + m ≤ maxLen) (hbytes : (n + m) * bytes ≤ 140737488355328) (hbase : base ≤ w.heap.size)
    (h : ∀ v' w', w'.ownsRow base e size v' (n + m) (xs ++ news) → w.grownBy w' v.ownBlock → (v'.ownBlock = v.ownBlock ∨ v'.ownBlock = some w.heap.size) → K (a.put o.dst v') w') :
    if Region.wanted o (yielded ops a.tmps) = true then Oper.wp P o a w K Q else E := by
  have hw : Region.wanted o (yielded ops a.tmps) = true := by simp [Region.wanted, hgd]
  rw [if_pos hw]
  exact wp_append_any w s x t ho base e i z size bytes ht hi hz hsize hby hzs hsz v n xs hs hown B A m c news hx hr h1 h63 hbytes hbase h
end

/-- The cells of n elements of sz cells each, one after the other. -/
def flat (n sz : Nat) (f : Nat → Nat → Value) : List Value := (List.range (n * sz)).map fun m => f (m / sz) (m % sz)
theorem flat_length (n sz : Nat) (f : Nat → Nat → Value) : (flat n sz f).length = n * sz := by simp [flat]
theorem idx_lt {i j n sz : Nat} (hi : i < n) (hj : j < sz) : i * sz + j < n * sz := by
  have h1 : (i + 1) * sz ≤ n * sz := Nat.mul_le_mul_right _ hi
  rw [Nat.succ_mul] at h1
  omega
theorem flat_get {n sz : Nat} {f : Nat → Nat → Value} {i j : Nat} (hi : i < n) (hj : j < sz) : (flat n sz f)[i * sz + j]? = some (f i j) := by
  have hlt := idx_lt hi hj
  have h1 : (i * sz + j) / sz = i := by
    rw [Nat.mul_comm, Nat.mul_add_div (by omega), Nat.div_eq_of_lt hj]; omega
  have h2 : (i * sz + j) % sz = j := by
    rw [Nat.mul_comm, Nat.mul_add_mod, Nat.mod_eq_of_lt hj]
  simp [flat, hlt, h1, h2]
theorem flat_inv {n sz : Nat} {f : Nat → Nat → Value} {m : Nat} {u : Value} (hsz : 0 < sz) (h : (flat n sz f)[m]? = some u) : ∃ i j, i < n ∧ j < sz ∧ m = i * sz + j ∧ u = f i j := by
  have hm : m < n * sz := by
    have := (List.getElem?_eq_some_iff.1 h).1
    rwa [flat_length] at this
  have hi : m / sz < n := by rw [Nat.div_lt_iff_lt_mul hsz]; exact hm
  have hj : m % sz < sz := Nat.mod_lt _ hsz
  refine ⟨m / sz, m % sz, hi, hj, by rw [Nat.mul_comm]; exact (Nat.div_add_mod m sz).symm, ?_⟩
  have h2 := flat_get (f := f) hi hj
  rw [show m / sz * sz + m % sz = m by rw [Nat.mul_comm]; exact Nat.div_add_mod m sz, h] at h2
  injection h2
theorem Sl.reads {w : World} {B sz n cap : Nat} {A : Option Addr} {f : Nat → Nat → Value} (h : Sl w B sz (.slice A n cap) n f) (hsz : 0 < sz) : Reads w B sz A n (flat n sz f) := by
  obtain ⟨A', b, off, cap', hv, hn, hA, hc⟩ := h
  injection hv with hv1 hv2 hv3
  subst hv1
  refine ⟨flat_length _ _ _, fun h0 => ?_⟩
  rcases hA with ⟨rfl, hb⟩ | hz
  · refine ⟨_, rfl, hb, fun m u hu => ?_⟩
    obtain ⟨i, j, hi, hj, rfl, rfl⟩ := flat_inv hsz hu
    have := hc i j hi hj
    unfold Addr.add
    split
    · rename_i h1
      rw [h1] at this
      simpa using this
    · exact this
  · omega
theorem Sl.of_owns {w : World} {base e sz n : Nat} {v : Value} {xs : List Value} {f : Nat → Nat → Value} (h : w.ownsRow base e sz v n xs) (hx : ∀ i j, i < n → j < sz → xs[i * sz + j]? = some (f i j)) : Sl w w.heap.size sz v n f := by
  have hlt := h.lt
  obtain ⟨hl, ⟨rfl, rfl⟩ | ⟨g, cap, cur, rfl, hb, hg, hnc, hcm, hcs, htake⟩⟩ := h
  · exact Sl.nil _ _ _ _
  · refine ⟨some ⟨g, 0, none⟩, g, 0, cap, rfl, hnc, .inl ⟨rfl, (hlt g (by simp [Value.ownBlock])).2⟩, fun i j hi hj => ?_⟩
    have h1 := hx i j hi hj
    rw [← htake] at h1
    have h2 : cur[i * sz + j]? = some (f i j) := by
      rw [List.getElem?_take] at h1
      split at h1
      · rwa [Array.getElem?_toList] at h1
      · cases h1
    rw [Nat.zero_add]
    simp [World.cell?, hg, h2]
theorem flat_one {n sz : Nat} {f : Nat → Nat → Value} (hsz : 0 < sz) (h : ∀ i j, (f i j).oneCell' = true) : ∀ u ∈ flat n sz f, u.oneCell' = true := by
  intro u hu
  obtain ⟨m, hm⟩ := List.getElem?_of_mem hu
  obtain ⟨i, j, _, _, _, rfl⟩ := flat_inv hsz hm
  exact h i j
/-- An element that is appended: one more. -/
theorem flat_snoc {n sz : Nat} {f : Nat → Nat → Value} {xs ys : List Value} (hl : xs.length = n * sz) (hx : ∀ i j, i < n → j < sz → xs[i * sz + j]? = some (f i j)) (hy : ∀ j, j < sz → ys[j]? = some (f n j)) :
    ∀ i j, i < n + 1 → j < sz → (xs ++ ys)[i * sz + j]? = some (f i j) := by
  intro i j hi hj
  rcases Nat.lt_or_ge i n with h | h
  · rw [List.getElem?_append_left (by rw [hl]; exact idx_lt h hj)]
    exact hx i j h hj
  · have : i = n := by omega
    subst this
    rw [List.getElem?_append_right (by omega), hl, Nat.add_sub_cancel_left]
    exact hy j hj
end Go.Proofs.Ytejjjijaojkohaa
/- Cycles of currents: a copy, the number of seconds, the seconds one by one: walks. -/
namespace Go.Proofs.Ytejjjijaojkohaa
open Go.RowKit

theorem infoCu : (Try.prog.info? 54).map (fun i => (i.zero, i.size, i.bytes)) = some (some (.agg #[.int .i64 0, .int .i64 0]), 2, 16) := by kernel_rfl
theorem infoInt : (Try.prog.info? 3).map (fun i => (i.zero, i.size, i.bytes)) = some (some (.int .i64 0), 1, 8) := by kernel_rfl
theorem cyF_one (cs : List Cu) (i j : Nat) : (cyF cs i j).oneCell' = true := rfl

theorem cycle_any (v : Value) (cs : List Cu) (w : World) (hn : cs.length ≤ 20) (h : Cyc w w.heap.size v cs) :
    Calls Try.prog 22 #[v] w fun e w' => ∃ v', e = .returned v' ∧ Cyc w' w'.heap.size v' cs ∧ Below w.heap.size w w' := by
  obtain ⟨i0, hi0, hz0, hz1, hz2⟩ := info_parts infoCu
  have H := hide h
  obtain ⟨A, cap, rfl⟩ := h.form
  clear h
  go_enter Try.func22, Try.ntmps22
  go_wp2_with (at_builtin; refine wpList_append_any _ rfl (.tmp 3) (.tmp 4) _ rfl w.heap.size 54 i0 _ 2 16 Try.underlying31 hi0 hz0 hz1 hz2 rfl (by omega) (.slice (some ⟨w.heap.size, 0, none⟩) 0 0) 0 [] rfl (World.ownsRow_made w #[] 0 (Nat.le_refl _) (by unfold maxLen; omega) rfl) w.heap.size A cs.length cap (flat cs.length 2 (cyF cs)) rfl ((H.out.reads (by omega)).alloc (Nat.le_refl _) _) (flat_one (by omega) (cyF_one cs)) (by unfold maxLen; omega) (by omega) (by simp) ?_; intro v1 w1 hown1 hg1 hat1)
  go_ret
  rw [Nat.zero_add, List.nil_append] at hown1
  exact ⟨v1, rfl, Sl.of_owns hown1 (fun i j hi hj => flat_get hi hj), (Below.allocT (Below.refl _ w) (Nat.le_refl _) _).grown hg1 (by simp) (fun k e => by simp [Value.ownBlock] at e; omega)⟩

def secsN (cs : List Cu) : Nat := (cs.map fun c => c.secs.toNat).sum
def secsL (cs : List Cu) : List Int := cs.flatMap fun c => List.replicate c.secs.toNat c.amps
theorem secsL_length (cs : List Cu) : (secsL cs).length = secsN cs := by
  induction cs with
  | nil => rfl
  | cons c r ih => simp only [secsL, secsN, List.flatMap_cons, List.length_append, List.length_replicate, List.map_cons, List.sum_cons] at ih ⊢; rw [ih]
theorem cu_mem {cs : List Cu} {k : Nat} (hk : k < cs.length) : cs.getD k Cu.z ∈ cs := by
  have h : cs.getD k Cu.z = cs[k] := by simp [hk]
  rw [h]; exact List.getElem_mem hk
theorem take_succ_cu {cs : List Cu} {k : Nat} (hk : k < cs.length) : cs.take (k + 1) = cs.take k ++ [cs.getD k Cu.z] := by
  have h : cs.getD k Cu.z = cs[k] := by simp [hk]
  rw [List.take_succ_eq_append_getElem hk, h]
theorem secsN_take {cs : List Cu} {k : Nat} (hk : k < cs.length) : secsN (cs.take (k + 1)) = secsN (cs.take k) + (cs.getD k Cu.z).secs.toNat := by
  rw [take_succ_cu hk]; simp [secsN]
theorem secsL_take {cs : List Cu} {k : Nat} (hk : k < cs.length) : secsL (cs.take (k + 1)) = secsL (cs.take k) ++ List.replicate (cs.getD k Cu.z).secs.toNat (cs.getD k Cu.z).amps := by
  rw [take_succ_cu hk]; simp [secsL]
theorem cycOk_len {cs : List Cu} (h : cycOk cs = true) : 1 ≤ cs.length ∧ cs.length ≤ 6 := by
  simp only [cycOk, Bool.and_eq_true, fromB_iff] at h
  omega
theorem cycOk_cu {cs : List Cu} (h : cycOk cs = true) {c : Cu} (hc : c ∈ cs) : 0 ≤ c.amps ∧ c.amps ≤ 500 ∧ 1 ≤ c.secs ∧ c.secs ≤ 60 := by
  simp only [cycOk, Bool.and_eq_true, Bool.not_eq_true', List.any_eq_false] at h
  have h2 := h.2 c hc
  simp only [Bool.not_eq_false, Cu.ok, Bool.and_eq_true, fromB_iff] at h2
  omega
theorem secsN_take_le {cs : List Cu} (h : cycOk cs = true) (k : Nat) (hk : k ≤ cs.length) : secsN (cs.take k) ≤ 60 * k := by
  induction k with
  | zero => simp [secsN]
  | succ k ih =>
    have h1 := secsN_take (show k < cs.length by omega)
    have h2 := cycOk_cu h (cu_mem (show k < cs.length by omega))
    have h3 := ih (by omega)
    omega
theorem secsN_le {cs : List Cu} (h : cycOk cs = true) : secsN cs ≤ 360 := by
  have h1 := secsN_take_le h cs.length (Nat.le_refl _)
  rw [List.take_length] at h1
  have h2 := cycOk_len h
  omega
theorem secsN_pos {cs : List Cu} (h : cycOk cs = true) : 1 ≤ secsN cs := by
  have h1 := cycOk_len h
  match cs, h1 with
  | c :: r, _ =>
    have h2 := cycOk_cu h (List.mem_cons_self (a := c) (l := r))
    simp only [secsN, List.map_cons, List.sum_cons]
    omega

theorem long_any (v : Value) (cs : List Cu) (w : World) (hok : cycOk cs = true) (h : Cyc w w.heap.size v cs) :
    Calls Try.prog 94 #[v] w fun e w' => e = .returned (.int .i64 (secsN cs)) ∧ Below w.heap.size w w' := by
  obtain ⟨A, b, off, cap, rfl, hnc, hA, hc⟩ := h
  have HC := hide hc; clear hc
  have HA := hide hA; clear hA
  have hlen := (cycOk_len hok).2
  have HOK := hide hok; clear hok
  go_enter Try.func94, Try.ntmps94
  go_wp2
  go_loopw [2, 4, 7] (fun t _ i wr => ∃ k m : Nat, k ≤ cs.length ∧ m ≤ 60 * k ∧ Hid (m = secsN (cs.take k)) ∧ i = .int .i64 k ∧ t = .int .i64 m ∧ Below w.heap.size w wr) (fun _ _ i _ => cs.length - (intOf i).toNat)
  case atStart => exact ⟨0, 0, Nat.zero_le _, by omega, rfl, rfl, rfl, Below.refl _ _⟩
  case round =>
    obtain ⟨k, m, hk, hm, hs, rfl, rfl, hB⟩ := hrel
    by_cases hlt : k < cs.length
    · obtain ⟨c, HZ, hA1, h0, h1⟩ := cyAt hB HA.out HC.out hlt
      subst hA1
      have hc2 := cycOk_cu HOK.out (cu_mem hlt)
      rw [HZ.out] at hc2
      obtain ⟨_, _, hc3, hc4⟩ := hc2
      go_wp2
      go_roundw
      case rel => exact ⟨k + 1, m + c.secs.toNat, by omega, by omega, by show _ = _; rw [secsN_take hlt, HZ.out, hs.out], by go_num, by go_num, (by repeat (first | exact Below.refl _ _ | assumption | refine Below.drew ?_ | refine Below.drewN ?_ _ | refine Below.allocT ?_ (Nat.le_refl _) _ | refine Below.setCell ?_ (by simp <;> omega) _ | refine Below.to ?_ (by assumption) (Nat.le_refl _)))⟩
      case measure => simp [intOf]; omega
    · go_wp2
      go_ret
      exact ⟨ret_int (by rw [hs.out, List.take_of_length_le (by omega)]), hB⟩

theorem seconds_any (v : Value) (cs : List Cu) (w : World) (hok : cycOk cs = true) (h : Cyc w w.heap.size v cs) :
    Calls Try.prog 66 #[v] w fun e w' => ∃ v', e = .returned v' ∧ w'.ownsRow w.heap.size 3 1 v' (secsN cs) ((secsL cs).map (Value.int .i64)) ∧ Below w.heap.size w w' := by
  obtain ⟨i0, hi0, hz0, hz1, hz2⟩ := info_parts infoInt
  obtain ⟨A, b, off, cap, rfl, hnc, hA, hc⟩ := h
  have HC := hide hc; clear hc
  have HA := hide hA; clear hA
  have hlen := (cycOk_len hok).2
  have HOK := hide hok; clear hok
  go_enter Try.func66, Try.ntmps66
  go_wp2
  go_loopw [3, 4, 5] (fun l i _ wr => ∃ k m : Nat, k ≤ cs.length ∧ m ≤ 60 * k ∧ Hid (m = secsN (cs.take k)) ∧ i = .int .i64 k ∧ wr.ownsRow w.heap.size 3 1 l m ((secsL (cs.take k)).map (Value.int .i64)) ∧ Below w.heap.size w wr) (fun _ i _ _ => cs.length - (intOf i).toNat)
  case atStart => exact ⟨0, 0, Nat.zero_le _, by omega, rfl, rfl, World.ownsRow_nil _ _ _ _, Below.refl _ _⟩
  case round =>
    obtain ⟨k, m, hk, hm, hs, rfl, hown, hB⟩ := hrel
    by_cases hlt : k < cs.length
    · have hb := cyB HA.out (show 0 < cs.length by omega)
      obtain ⟨c, HZ, hA1, h0, h1⟩ := cyAt hB HA.out HC.out hlt
      subst hA1
      have hc2 := cycOk_cu HOK.out (cu_mem hlt)
      rw [HZ.out] at hc2
      obtain ⟨_, _, hc3, hc4⟩ := hc2
      go_wp2
      obtain ⟨wo, rfl⟩ : ∃ wo : World, wo = wr := ⟨_, rfl⟩
      go_loopw [3, 5] (fun l s wr => ∃ t : Nat, (t : Int) ≤ c.secs ∧ s = .int .i64 t ∧ wr.ownsRow w.heap.size 3 1 l (m + t) ((secsL (cs.take k) ++ List.replicate t c.amps).map (Value.int .i64)) ∧ Below w.heap.size w wr) (fun _ s _ => c.secs.toNat - (intOf s).toNat)
      case atStart => exact ⟨0, by omega, rfl, by simpa using hown, hB⟩
      case round =>
        obtain ⟨t, ht, rfl, hown2, hB2⟩ := hrel
        obtain ⟨h0, h1⟩ := cyAt2 hB2 hb HC.out hlt HZ.out
        by_cases hts : (t : Int) < c.secs
        · go_wp2_with (at_builtin; refine wpList_append_own_at _ rfl (.tmp 21) (.tmp 27) _ rfl w.heap.size 3 i0 _ 1 8 Try.underlying49 hi0 hz0 hz1 hz2 rfl (by omega) _ _ _ rfl (hown2.alloc _) ⟨wr.heap.size, 0, none⟩ 1 1 [.int .i64 c.amps] rfl rfl (cell_one_new _ _ _) (by simp [Value.oneCell']) (by unfold maxLen; omega) (by omega) (by have := hB2.size; simp; omega) ?_; intro v1 w1 hown1 hg1 _ hat1)
          go_roundw
          case rel => exact ⟨t + 1, by omega, by go_num, by simpa [List.replicate_succ', Nat.add_assoc] using hown1, (Below.allocT hB2 (Nat.le_refl _) _).grown hg1 (by have := hB2.size; simp; omega) (fun k e => (hown2.lt k e).1)⟩
          case measure => simp [intOf]; omega
        · go_wp2
          go_roundw
          case rel =>
            have ht2 : t = c.secs.toNat := by omega
            exact ⟨k + 1, m + c.secs.toNat, by omega, by omega, by show _ = _; rw [secsN_take hlt, HZ.out, hs.out], by go_num, by rw [secsL_take hlt, HZ.out, ← ht2]; exact hown2, hB2⟩
          case measure => simp [intOf]; omega
    · go_wp2
      go_ret
      exact ⟨_, rfl, by rw [hs.out, List.take_of_length_le (show cs.length ≤ k by omega)] at hown; exact hown, hB⟩
end Go.Proofs.Ytejjjijaojkohaa
/- A wire and the link of a fuse: one second, and how warm: walks. -/
namespace Go.Proofs.Ytejjjijaojkohaa
open Go.RowKit

def warmI (g : Ga) (r i : Int) : Int := r + (i * i * g.heat / 4096 - r * g.cool / 1024)
def heatI (f : Fu) (h i : Int) : Int := max 0 (h + i * i - f.rating * f.rating)

/-- Block b is a wire with its rise. -/
def WireAt (w : World) (b : Nat) (g : Ga) (r : Int) : Prop := w.heap[b]? = some (.cells #[.int .i64 g.area, .int .i64 g.ohm, .int .i64 g.heat, .int .i64 g.cool, .int .i64 g.limit, .int .i64 r] 94 (0, 0))
/-- Block b is the link of a fuse with its heat. -/
def LinkAt (w : World) (b : Nat) (f : Fu) (h : Int) : Prop := w.heap[b]? = some (.cells #[.int .i64 f.rating, .int .i64 f.melt, .int .i64 h] 119 (0, 0))

theorem heap_new (w : World) (o : Obj) (k : Nat) (hk : k = w.heap.size) : (w.alloc o).heap[k]? = some o := by subst hk; exact World.alloc_heap_new w o
theorem heap_old (w : World) (o : Obj) (k : Nat) (hk : k < w.heap.size) : (w.alloc o).heap[k]? = w.heap[k]? := Below.heap_alloc w o k hk
theorem box_at {w w1 : World} {o : Obj} (hB : Below (w.alloc o).heap.size (w.alloc o) w1) : w1.heap[w.heap.size]? = some o := (hB.block _ (by simp)).trans (heap_new _ _ _ rfl)
theorem box_lt {w : World} {k : Nat} {o : Obj} (h : w.heap[k]? = some o) : k < w.heap.size := (Array.getElem?_eq_some_iff.1 h).1
theorem box_to {w w1 : World} {k : Nat} {o : Obj} (h : w.heap[k]? = some o) (hB : Below w.heap.size w w1) : w1.heap[k]? = some o := (hB.block _ (box_lt h)).trans h
theorem cellOf {w : World} {g : Nat} {cs : Array Value} {t : TypeId} {fr : Nat × Nat} (h : w.heap[g]? = some (.cells cs t fr)) (i : Nat) : w.cell? ⟨g, i, none⟩ = cs[i]? := by simp [World.cell?, h]
theorem unfrozenOf {w : World} {g : Nat} {cs : Array Value} {t : TypeId} (h : w.heap[g]? = some (.cells cs t (0, 0))) (i : Nat) : w.frozen? ⟨g, i, none⟩ = false := by simp [World.frozen?, h]
theorem setCellOf {w : World} {g i : Nat} {cs : Array Value} {t : TypeId} {fr : Nat × Nat} (h : w.heap[g]? = some (.cells cs t fr)) (v : Value) : (w.setCell ⟨g, i, none⟩ v).heap[g]? = some (.cells (cs.setIfInBounds i v) t fr) := by
  simp [World.setCell, Array.getElem?_modify, h]

theorem wireWarm_any (b : Nat) (g : Ga) (r : Int) (w : World) (h : WireAt w b g r) :
    Calls Try.prog 144 #[.pointer (some ⟨b, 0, none⟩)] w fun e w' => e = .returned (.int .i64 r) ∧ w = w' := by
  have h5 : w.cell? ⟨b, 5, none⟩ = some (.int .i64 r) := cellOf h 5
  clear h
  go_enter Try.func144, Try.ntmps144
  go_wp2
  go_ret
  exact ⟨rfl, rfl⟩

theorem linkWarm_any (b : Nat) (f : Fu) (r : Int) (w : World) (h : LinkAt w b f r) :
    Calls Try.prog 146 #[.pointer (some ⟨b, 0, none⟩)] w fun e w' => e = .returned (.int .i64 r) ∧ w = w' := by
  have h5 : w.cell? ⟨b, 2, none⟩ = some (.int .i64 r) := cellOf h 2
  clear h
  go_enter Try.func146, Try.ntmps146
  go_wp2
  go_ret
  exact ⟨rfl, rfl⟩

set_option maxRecDepth 100000 in
theorem wireSecond_any (b : Nat) (g : Ga) (r i : Int) (w : World) (h : WireAt w b g r) (hh0 : 0 ≤ g.heat) (hh1 : g.heat ≤ 1000) (hc0 : 0 ≤ g.cool) (hc1 : g.cool ≤ 1024) (hr0 : 0 ≤ r) (hr1 : r ≤ 1000000000) (hi0 : 0 ≤ i) (hi1 : i ≤ 500) :
    Calls Try.prog 110 #[.pointer (some ⟨b, 0, none⟩), .int .i64 i] w fun e w' => e = .returned (.tuple #[]) ∧ WireAt w' b g (warmI g r i) ∧ w.grownBy w' (some b) := by
  have c2 : w.cell? ⟨b, 2, none⟩ = some (.int .i64 g.heat) := cellOf h 2
  have c3 : w.cell? ⟨b, 3, none⟩ = some (.int .i64 g.cool) := cellOf h 3
  have c5 : w.cell? ⟨b, 5, none⟩ = some (.int .i64 r) := cellOf h 5
  have f5 : w.frozen? ⟨b, 5, none⟩ = false := unfrozenOf h 5
  have H := hide h; clear h
  obtain ⟨p1, p2⟩ := mul_range hi0 hi1 hi0 hi1
  obtain ⟨p3, p4⟩ := mul_range p1 p2 hh0 hh1
  obtain ⟨p5, p6⟩ := mul_range hr0 hr1 hc0 hc1
  go_enter Try.func110, Try.ntmps110
  go_wp2
  go_still_tail 29, (by kernel_rfl)
  change wpList _ _ _ _ _ w.drew
  go_wp2
  go_end0
  exact ⟨rfl, setCellOf H.out _, only_drew (only_setCell (only_refl w _) (.inl rfl) _)⟩

set_option maxRecDepth 100000 in
theorem linkSecond_any (b : Nat) (f : Fu) (r i : Int) (w : World) (h : LinkAt w b f r) (hh0 : 0 ≤ f.rating) (hh1 : f.rating ≤ 500) (hr0 : 0 ≤ r) (hr1 : r ≤ 1000000000) (hi0 : 0 ≤ i) (hi1 : i ≤ 500) :
    Calls Try.prog 145 #[.pointer (some ⟨b, 0, none⟩), .int .i64 i] w fun e w' => e = .returned (.tuple #[]) ∧ LinkAt w' b f (heatI f r i) ∧ w.grownBy w' (some b) := by
  have c0 : w.cell? ⟨b, 0, none⟩ = some (.int .i64 f.rating) := cellOf h 0
  have c2 : w.cell? ⟨b, 2, none⟩ = some (.int .i64 r) := cellOf h 2
  have f2 : w.frozen? ⟨b, 2, none⟩ = false := unfrozenOf h 2
  have H := hide h; clear h
  obtain ⟨p1, p2⟩ := mul_range hi0 hi1 hi0 hi1
  obtain ⟨p3, p4⟩ := mul_range hh0 hh1 hh0 hh1
  have e1 : IntKind.i64.wrap (i * i) = i * i := IntWalk.i64_in _ (by omega)
  have e2 : IntKind.i64.wrap (f.rating * f.rating) = f.rating * f.rating := IntWalk.i64_in _ (by omega)
  have e3 : IntKind.i64.wrap (r + i * i) = r + i * i := IntWalk.i64_in _ (by omega)
  have e4 : IntKind.i64.wrap (r + i * i - f.rating * f.rating) = r + i * i - f.rating * f.rating := IntWalk.i64_in _ (by omega)
  by_cases hc : 0 < r + i * i - f.rating * f.rating
  all_goals
    go_enter Try.func145, Try.ntmps145
    go_wp2
    go_still_tail 24, (by kernel_rfl)
    change wpList _ _ _ _ _ w.drew
    go_wp2
  all_goals
    go_end0
    refine ⟨rfl, ?_, only_drew (only_setCell (only_refl w _) (.inl rfl) _)⟩
    rw [show heatI f r i = _ from by unfold heatI; first | exact Int.max_eq_right (by omega) | exact Int.max_eq_left (by omega)]
    exact setCellOf H.out _
end Go.Proofs.Ytejjjijaojkohaa
/- A law on a range over a function whose iterator never ends by itself, after the library's law on iterators: no condition. -/
namespace Go.Proofs.Ytejjjijaojkohaa
open Go.RowKit

/-- The iterator's contract, where the loop's body is known to break out within N rounds: whatever came, a round said that it wants no more. -/
def SeqBrk {α : Type} (F : Fence) (n : Nat) (P : Program) (g : Nat) (lb : Array Value) (encs : α → Array Value) (Kp : World → World → Prop) (Sp : List α → Prop) (N : Nat) (w : World) : Prop :=
  ∀ (l : Nat) (J Jx : List α → World → Prop) (W : World), Below w.heap.size w W → AbidesFrom W.heap.size J → AbidesFrom W.heap.size Jx → (∀ pre W1, J pre W1 → pre.length < N) →
    (∀ pre x W1, J pre W1 → pre.length < N → YieldAt F (n - 1) P l (encs x) W1 fun e W' =>
      (e = .returned (.bool true) ∧ J (pre ++ [x]) W' ∧ Kp W1 W') ∨ (e = .returned (.bool false) ∧ Jx (pre ++ [x]) W')) →
    J [] W →
    CallsIn F n P g (#[.func (.yield l) #[] #[]] ++ lb) W fun e W' => (∃ v, e = .returned v) ∧ ∃ pre, Sp pre ∧ Jx pre W'

/-- The names of the methods that a function's code calls through interface values, in the order of its text. -/
def invOps : List Oper → List String
  | [] => []
  | o :: r => (match o.op with | .call c => (match c.callee with | .invoke _ m => [m] | _ => []) | _ => []) ++ invOps r
def invNames : Code → List String
  | .region _ ops _ => invOps ops.toList
  | .seq a b => invNames a ++ invNames b
  | .cond _ a b => invNames a ++ invNames b
  | .block _ c => invNames c
  | .loop c => invNames c
  | .rangeFunc _ _ a b => invNames a ++ invNames b
  | .scope c => invNames c
  | _ => []
def invName (f : Func) (k : Nat) : String := ((f.body.map invNames).getD []).getD k ""

variable {F : Fence} {n : Nat} {P : Program}
/-- A range over an iterator that never ends by itself: the body breaks out within N rounds. -/
theorem wpIn_rangeFunc_brk {α : Type} {g : Operand} {ps : Array Tmp} {assign body : Code} {Q : Exit → Act → World → Prop} {a : Act} {w : World}
    (hro : F.round = none) (h1 : 1 ≤ n) {gf : Nat} {lb : Array Value} (hg : a.eval g = .func (.func gf) #[] lb) (hFg : F.fn gf) (eg : ∀ args w, (callFunc gf args).run P w = .ok (.enter gf args) w)
    {encs : α → Array Value} {Kp : World → World → Prop} {Sp : List α → Prop} {N : Nat} {w0 : World} (hseq : SeqBrk F (n - 1) P gf lb encs Kp Sp N w0)
    (hKt : ∀ {A B C : World}, Kp A B → Kp B C → Kp A C) (hKb : ∀ (W : World) (l : Nat) (o o' : Obj), w.heap.size ≤ l → W.heap[l]? = some o → o.isCells = false → o.isWalk = false → Kp W (W.putObj l o')) (hb0 : Below w0.heap.size w0 w) (hps : ∀ x, (encs x).size = ps.size)
    (I : List α → World → Prop) (Ix : Code → List α → World → Prop) (hI : OwnFrom w.heap.size I) (hIx : ∀ c, OwnFrom w.heap.size (Ix c)) (hN : ∀ pre W, I pre W → pre.length < N) (h0 : I [] w) (a₁ : α → Act)
    (hassign : ∀ (l : Nat) (x : α) (W : World) (K : Act → World → Prop), K (a₁ x) W →
      assign.wpIn (F.inRound l) (n - 1 - 1) P (Exit.then K (fun _ _ _ => False)) { tmps := (ps.zip (encs x)).foldl (fun t (p, v) => t.setIfInBounds p v) a.tmps, defers := [] } W)
    (hbody : ∀ (l : Nat) (pre : List α) (x : α) (W : World), I pre W → pre.length < N → body.wpIn (F.inRound l) (n - 1 - 1) P (ownPostK Kp I Ix (pre ++ [x]) W) (a₁ x) W)
    (hstop : ∀ (D : Nat) (c : Code) (pre : List α) (W : World), w.heap.size ≤ D → Sp pre → Ix c pre W → W.heap[D]? = some (.deferred (some [])) → c.wpIn F n P Q { a with defers := { target := .collected D, args := #[] } :: a.defers } W) :
    (Code.rangeFunc g ps assign body).wpIn F n P Q a w := by
  refine wpIn_rangeFunc ?_
  intro fn hfn
  rw [hro]
  obtain ⟨rec, hrec⟩ : ∃ rec : LoopState → Option Code → Loop, rec = fun st pe => { state := st, pending := pe, fn, tmps := a.tmps, params := ps, assign, body, defers := w.heap.size } := ⟨_, rfl⟩
  obtain ⟨W1, hW1⟩ : ∃ W1, (w.alloc (.deferred (some []))).alloc (.loop (rec .ready none)) = W1 := ⟨_, rfl⟩
  have hL1 : W1.heap[w.heap.size + 1]? = some (.loop (rec .ready none)) := by
    rw [← hW1]; have := World.alloc_heap_new (w.alloc (.deferred (some []))) (.loop (rec .ready none)); rwa [World.size_alloc] at this
  have hK1 : W1.heap[w.heap.size]? = some (.deferred (some [])) := by
    rw [← hW1]; exact (Below.heap_alloc _ _ _ (by simp)).trans (World.alloc_heap_new w _)
  have hI1 : I [] W1 := by rw [← hW1]; exact hI.alloc _ (hI.alloc _ h0)
  have hb1 : Below w0.heap.size w0 W1 := by
    rw [← hW1]; exact hb0.trans ((((Below.refl _ w).alloc (Nat.le_refl _) _).alloc (by simp) _).mono hb0.size)
  refine ⟨w.heap.size + 1, [{ target := .collected w.heap.size, args := #[] }], W1, { target := .fn (.func gf) lb, args := #[.func (.yield (w.heap.size + 1)) #[] #[]] }, W1, gf,
    #[.func (.yield (w.heap.size + 1)) #[] #[]] ++ lb, W1, ?_, ?_, ?_, ?_, fun _ => h1, ?_⟩
  · rw [← hW1, hrec]; exact run_enterLoop_outer _ _ _ _ _
  · simp only [resolve, hg]
    simp [go_sem]
  · intro f' hf'; simp [Target.leads] at hf'; subst hf'; exact hFg
  · simp [invoke, go_sem, eg]
  · -- THE ITERATOR's CONTRACT, AT THE CALLER's INVARIANT WITH THE TWO FACTS OF BOOK-KEEPING BESIDE IT
    have hnw : ∀ {A B : World} {row : Option Nat}, (∀ r, row = some r → W1.heap.size ≤ r ∧ ∃ o : Obj, A.heap[r]? = some o ∧ o.isWalk = true) → (∀ r, row = some r → w.heap.size ≤ r ∧ ∃ o : Obj, A.heap[r]? = some o ∧ o.isCells = false) :=
      fun hr r e => by obtain ⟨hB, o, ho, hw⟩ := hr r e; exact ⟨by rw [← hW1] at hB; simp at hB; omega, o, ho, Obj.not_cells_of_walk hw⟩
    refine (hseq (w.heap.size + 1)
      (fun pre W => I pre W ∧ W.heap[w.heap.size + 1]? = some (.loop (rec .ready none)) ∧ W.heap[w.heap.size]? = some (.deferred (some [])))
      (fun pre W => ∃ c, Ix c pre W ∧ W.heap[w.heap.size + 1]? = some (.loop (rec .done (some c))) ∧ W.heap[w.heap.size]? = some (.deferred (some [])))
      W1 hb1
      (fun s A B row hs hg' hr => ⟨hI s A B row hs.1 hg' (hnw (B := B) hr), (grownBy_keeps hg' (fun r e => (hr r e).2) hs.2.1 rfl).trans hs.2.1, (grownBy_keeps hg' (fun r e => (hr r e).2) hs.2.2 rfl).trans hs.2.2⟩)
      (fun s A B row hs hg' hr => by
        obtain ⟨c, hc, hl, hk⟩ := hs
        exact ⟨c, hIx c s A B row hc hg' (hnw (B := B) hr), (grownBy_keeps hg' (fun r e => (hr r e).2) hl rfl).trans hl, (grownBy_keeps hg' (fun r e => (hr r e).2) hk rfl).trans hk⟩)
      (fun pre W hs => hN pre W hs.1)
      ?_ ⟨hI1, hL1, hK1⟩).mono ?_
    · -- ONE ROUND
      rintro pre x W ⟨hi, hl, hk⟩ hlen
      have hlt : w.heap.size + 1 < W.heap.size := (Array.getElem?_eq_some_iff.1 hl).1
      have hy := run_yield (P := P) (args := encs x) hl (by rw [hrec]; exact hps x)
      rw [hrec] at hy
      refine ⟨fn, _, assign, body, hy, roundIn_of_wpIn hfn (hassign _ x W _ ⟨_, run_beginRound hl (by rw [hrec]), ?_⟩)⟩
      have hl2 : (W.putObj (w.heap.size + 1) (.loop { rec .ready none with state := .busy })).heap[w.heap.size + 1]? = some (.loop { rec .ready none with state := .busy }) := World.putObj_heap_same hlt
      have hk2 : (W.putObj (w.heap.size + 1) (.loop { rec .ready none with state := .busy })).heap[w.heap.size]? = some (.deferred (some [])) := (World.putObj_heap_other (by omega)).trans hk
      have hw2 : Kp W (W.putObj (w.heap.size + 1) (.loop { rec .ready none with state := .busy })) := hKb _ _ _ _ (by omega) hl rfl rfl
      refine wpIn_mono (hbody _ pre x _ (hI.putObj _ hi (by omega) hl rfl) hlen) ?_
      have fin : ∀ (jump : Option Code) (W3 : World), KeepsOthers (W.putObj (w.heap.size + 1) (.loop { rec .ready none with state := .busy })) W3 →
          (Instr.endRound (w.heap.size + 1) jump).run P W3 = .ok (.bool jump.isNone) (W3.putObj (w.heap.size + 1) (.loop (rec (if jump.isNone then .ready else .done) jump))) ∧
          W3.heap[w.heap.size + 1]? = some (.loop { rec .ready none with state := .busy }) ∧
          (W3.putObj (w.heap.size + 1) (.loop (rec (if jump.isNone then .ready else .done) jump))).heap[w.heap.size + 1]? = some (.loop (rec (if jump.isNone then .ready else .done) jump)) ∧
          (W3.putObj (w.heap.size + 1) (.loop (rec (if jump.isNone then .ready else .done) jump))).heap[w.heap.size]? = some (.deferred (some [])) := fun jump W3 hk3 => by
        have hl3 := hk3.same _ _ hl2 rfl
        have := run_endRound (P := P) jump hl3
        rw [hrec] at this ⊢
        exact ⟨this, by rw [hrec] at hl3; exact hl3, World.putObj_heap_same (Array.getElem?_eq_some_iff.1 hl3).1, (World.putObj_heap_other (by omega)).trans (hk3.same _ _ hk2 rfl)⟩
      rintro e a3 W3 hp
      cases e with
      | normal =>
        obtain ⟨hk3, hkp3, hi3⟩ := hp
        obtain ⟨hr, hl3, hl4, hk4⟩ := fin none W3 hk3
        exact ⟨_, _, hr, .inl ⟨rfl, ⟨hI.putObj _ hi3 (by omega) hl3 rfl, hl4, hk4⟩, hKt (hKt hw2 hkp3) (hKb _ _ _ _ (by omega) hl3 rfl rfl)⟩⟩
      | ret =>
        obtain ⟨hk3, hi3⟩ := hp
        obtain ⟨hr, hl3, hl4, hk4⟩ := fin (some .ret) W3 hk3
        exact ⟨_, _, hr, .inr ⟨rfl, .ret, (hIx _).putObj _ hi3 (by omega) hl3 rfl, hl4, hk4⟩⟩
      | exit id =>
        obtain ⟨hk3, hi3⟩ := hp
        obtain ⟨hr, hl3, hl4, hk4⟩ := fin (some (.exit id)) W3 hk3
        exact ⟨_, _, hr, .inr ⟨rfl, .exit id, (hIx _).putObj _ hi3 (by omega) hl3 rfl, hl4, hk4⟩⟩
      | goto t =>
        obtain ⟨hk3, hi3⟩ := hp
        obtain ⟨hr, hl3, hl4, hk4⟩ := fin (some (.goto t)) W3 hk3
        exact ⟨_, _, hr, .inr ⟨rfl, .goto t, (hIx _).putObj _ hi3 (by omega) hl3 rfl, hl4, hk4⟩⟩
      | panic ch => exact hp.elim
      | outgrown => exact hp.elim
    · -- BEHIND THE ITERATOR
      rintro e W2 ⟨⟨v, rfl⟩, ⟨pre, hSp, c, hi, hl, hk⟩⟩
      exact ⟨some c, _, by have := run_endLoop (P := P) hl (by rw [hrec]; simp); rw [hrec] at this; exact this, hstop _ c pre _ (Nat.le_refl _) hSp ((hIx c).putObj _ hi (by omega) hl rfl) ((World.putObj_heap_other (by omega)).trans hk)⟩

end Go.Proofs.Ytejjjijaojkohaa
/- The iterator over the seconds of a cycle, over and over again: its contract. -/
namespace Go.Proofs.Ytejjjijaojkohaa
open Go.RowKit Go.Shelf
attribute [local go_sem] Oper.semAt_some
set_option linter.unusedVariables false

/-- Blocks of cells outside S lie as they lay. -/
structure Kpt (S : Nat → Prop) (W W' : World) : Prop where
  size : W.heap.size ≤ W'.heap.size
  same : ∀ k, ¬ S k → ∀ cs t fr, W.heap[k]? = some (.cells cs t fr) → W'.heap[k]? = some (.cells cs t fr)
theorem Kpt.refl (S : Nat → Prop) (W : World) : Kpt S W W := ⟨Nat.le_refl _, fun _ _ _ _ _ h => h⟩
theorem Kpt.trans {S : Nat → Prop} {A B C : World} (h : Kpt S A B) (k : Kpt S B C) : Kpt S A C := ⟨Nat.le_trans h.size k.size, fun i hi cs t fr hc => k.same i hi cs t fr (h.same i hi cs t fr hc)⟩
theorem Kpt.cell {S : Nat → Prop} {A B : World} (h : Kpt S A B) {b o : Nat} (hb : ¬ S b) {u : Value} (hc : A.cell? ⟨b, o, none⟩ = some u) : B.cell? ⟨b, o, none⟩ = some u := by
  unfold World.cell? at hc ⊢
  cases hh : A.heap[b]? with
  | none => rw [hh] at hc; cases hc
  | some ob =>
    rw [hh] at hc
    cases ob with
    | cells cs t fr => rw [h.same b hb cs t fr hh]; exact hc
    | _ => cases hc
theorem Kpt.putObj {S : Nat → Prop} (W : World) (l : Nat) (o o' : Obj) (h : W.heap[l]? = some o) (ho : o.isCells = false) : Kpt S W (W.putObj l o') := by
  have hg := grownBy_putObj' W l o'
  refine ⟨hg.size, fun k _ cs t fr hk => ?_⟩
  rcases Nat.decEq k l with hne | he
  · exact (hg.block k (Array.getElem?_eq_some_iff.1 hk).1 (fun e => hne (by injection e))).trans hk
  · subst he
    rw [h] at hk
    injection hk with hk
    subst hk
    cases ho
theorem Kpt.alloc (S : Nat → Prop) (W : World) (o : Obj) : Kpt S W (W.alloc o) :=
  ⟨by simp, fun k _ cs t fr hk => (Below.heap_alloc W o k (Array.getElem?_eq_some_iff.1 hk).1).trans hk⟩
theorem Kpt.drewN (S : Nat → Prop) (W : World) (n : Nat) : Kpt S W (W.drewN n) := ⟨Nat.le_refl _, fun _ _ _ _ _ h => h⟩
theorem Kpt.drew (S : Nat → Prop) (W : World) : Kpt S W W.drew := ⟨Nat.le_refl _, fun _ _ _ _ _ h => h⟩
theorem Kpt.grown {S : Nat → Prop} {A B : World} {g : Nat} (h : A.grownBy B (some g)) (hg : S g) : Kpt S A B :=
  ⟨h.size, fun k hk cs t fr hc => (h.block k (Array.getElem?_eq_some_iff.1 hc).1 (fun e => by injection e with e; subst e; exact hk hg)).trans hc⟩
theorem Kpt.below {S : Nat → Prop} {A B : World} (h : Below A.heap.size A B) : Kpt S A B :=
  ⟨h.size, fun k _ cs t fr hc => (h.block k (Array.getElem?_eq_some_iff.1 hc).1).trans hc⟩
theorem Kpt.setCell {S : Nat → Prop} (W : World) {p : Addr} (hp : S p.block) (u : Value) : Kpt S W (W.setCell p u) :=
  ⟨by simp [World.setCell], fun k hk cs t fr hc => (Below.heap_setCell W p u k (fun e => hk (by rw [e]; exact hp))).trans hc⟩

/-- The current in second j of a cycle that goes on and on. -/
def ampAt (cs : List Cu) (j : Nat) : Int := (secsL cs).getD (j % secsN cs) 0
def ups (cs : List Cu) (s : Nat) : List Int := (List.range s).map (ampAt cs)
theorem ups_succ (cs : List Cu) (s : Nat) : ups cs (s + 1) = ups cs s ++ [ampAt cs s] := by simp [ups, List.range_succ]
theorem ups_length (cs : List Cu) (s : Nat) : (ups cs s).length = s := by simp [ups]
theorem ups_zero (cs : List Cu) : ups cs 0 = [] := rfl
theorem secsL_at {cs : List Cu} {k t : Nat} (hk : k < cs.length) (ht : t < (cs.getD k Cu.z).secs.toNat) : (secsL cs).getD (secsN (cs.take k) + t) 0 = (cs.getD k Cu.z).amps ∧ secsN (cs.take k) + t < secsN cs := by
  have h1 : secsL cs = secsL (cs.take (k + 1)) ++ secsL (cs.drop (k + 1)) := by
    unfold secsL; rw [← List.flatMap_append, List.take_append_drop]
  have h2 : secsN cs = secsN (cs.take (k + 1)) + secsN (cs.drop (k + 1)) := by
    unfold secsN; rw [← List.sum_append, ← List.map_append, List.take_append_drop]
  rw [secsN_take hk] at h2
  refine ⟨?_, by omega⟩
  rw [h1, secsL_take hk, List.append_assoc, List.getD_eq_getElem?_getD, List.getElem?_append_right (by rw [secsL_length]; omega), secsL_length, Nat.add_sub_cancel_left, List.getElem?_append_left (by simpa using ht), List.getElem?_replicate, if_pos ht]
  rfl
theorem ampAt_at {cs : List Cu} {q k t : Nat} (hk : k < cs.length) (ht : t < (cs.getD k Cu.z).secs.toNat) : ampAt cs (q * secsN cs + (secsN (cs.take k) + t)) = (cs.getD k Cu.z).amps := by
  obtain ⟨h1, h2⟩ := secsL_at hk ht
  unfold ampAt
  rw [Nat.mul_comm, Nat.mul_add_mod, Nat.mod_eq_of_lt h2, h1]

set_option maxRecDepth 100000 in
set_option maxHeartbeats 2000000 in
theorem seconds1_in (F : Fence) (n : Nat) (hf : F.fn 109) (hro : F.round = none) (hn : 1 ≤ n) (l Bc b off cap N : Nat) (cs : List Cu) (hok : cycOk cs = true) (S : Nat → Prop) (J Jx : List Int → World → Prop)
    (W : World) (hS : ∀ k, S k → k < W.heap.size) (hSc : ¬ S Bc) (hSb : ¬ S b) (hJa : AbidesFrom W.heap.size J)
    (hN : ∀ pre W, J pre W → pre.length < N)
    (hY : ∀ pre x W, (0 ≤ x ∧ x ≤ 500) → J pre W → pre.length < N → YieldAt F (n - 1) Try.prog l #[.int .i64 x] W fun e W' =>
      (e = .returned (.bool true) ∧ J (pre ++ [x]) W' ∧ Kpt S W W') ∨ (e = .returned (.bool false) ∧ Jx (pre ++ [x]) W'))
    (hBc : W.cell? ⟨Bc, 0, none⟩ = some (.slice (some ⟨b, off, none⟩) cs.length cap)) (hc : ∀ i j, i < cs.length → j < 2 → W.cell? ⟨b, off + (i * 2 + j), none⟩ = some (cyF cs i j)) (h0 : J [] W) :
    CallsIn F n Try.prog 109 #[.func (.yield l) #[] #[], .pointer (some ⟨Bc, 0, none⟩)] W fun e W' => (∃ v, e = .returned v) ∧ ∃ pre, (∃ s, pre = ups cs s) ∧ Jx pre W' := by
  have HC := hide hc; clear hc
  have HOK := hide hok
  have hlen := (cycOk_len hok).2
  have hlen1 := (cycOk_len hok).1
  clear hok
  refine callsIn_of_wp Try.func109 rfl hf ?_ hro
  simp only [Try.ntmps109, List.size_toArray, List.length_cons, List.length_nil, Nat.reduceAdd, Nat.reduceSub, Array.replicate_succ, Array.replicate_zero, List.push_toArray, List.append_toArray, List.nil_append, List.cons_append]
  gi_wp2
  gi_loopg [] N (fun m wr => ∃ q : Nat, Hid (m = N - q * secsN cs) ∧ J (ups cs (q * secsN cs)) wr ∧ Kpt S W wr)
  case atStart => exact ⟨0, (by show _ = _; omega), (by rw [Nat.zero_mul]; exact h0), Kpt.refl _ _⟩
  case round =>
    obtain ⟨q, hm, hJ, hK⟩ := hrel
    have hcell := hK.cell hSc hBc
    have hq : q * secsN cs < N := by have := hN _ _ hJ; rwa [ups_length] at this
    gi_wp2
    obtain ⟨wo, rfl⟩ : ∃ wo : World, wo = wr := ⟨_, rfl⟩
    clear hcell
    gi_loopw [7] (fun i wr => ∃ k : Nat, k ≤ cs.length ∧ i = .int .i64 k ∧ J (ups cs (q * secsN cs + secsN (cs.take k))) wr ∧ Kpt S W wr) (fun i _ => cs.length - (intOf i).toNat)
    case atStart => exact ⟨0, Nat.zero_le _, rfl, by simpa [secsN] using hJ, hK⟩
    case round =>
      obtain ⟨k, hk, rfl, hJ1, hK1⟩ := hrel
      by_cases hlt : k < cs.length
      · obtain ⟨c, HZ⟩ : ∃ c, Hid (cs.getD k Cu.z = c) := ⟨_, rfl⟩
        have h0 : wr.cell? ⟨b, off + k * 2, none⟩ = some (.int .i64 c.amps) := hK1.cell hSb (by have := HC.out k 0 hlt (by omega); simp only [cyF, if_pos, HZ.out] at this; exact this)
        have h1 : wr.cell? ⟨b, off + k * 2 + 1, none⟩ = some (.int .i64 c.secs) := hK1.cell hSb (by have := HC.out k 1 hlt (by omega); simp only [cyF, HZ.out] at this; exact this)
        have hc2 := cycOk_cu HOK.out (cu_mem hlt)
        rw [HZ.out] at hc2
        obtain ⟨hc1, hc2, hc3, hc4⟩ := hc2
        gi_wp2
        obtain ⟨W1, hW1⟩ : ∃ W1 : World, wr.alloc (.cells #[.int .i64 c.amps, .int .i64 c.secs] 54) = W1 := ⟨_, rfl⟩
        have hJ2 : J (ups cs (q * secsN cs + secsN (cs.take k))) W1 := by
          rw [← hW1]; exact hJa _ _ _ none hJ1 (World.grownBy_alloc _ _ _) (fun r e => by cases e)
        have hK2 : Kpt S W W1 := by rw [← hW1]; exact hK1.trans (Kpt.alloc _ _ _)
        have hcc : W1.cell? ⟨wr.heap.size, 0, none⟩ = some (.int .i64 c.amps) := by
          rw [← hW1]; simp
        have hnS : ¬ S wr.heap.size := fun h => by have := hS _ h; have := hK1.size; omega
        rw [hW1]
        clear hW1
        obtain ⟨wb, hwb⟩ : ∃ wb : Nat, wr.heap.size = wb := ⟨_, rfl⟩
        rw [hwb] at hcc hnS ⊢
        clear hwb h0 h1
        gi_loopw [13] (fun i wr' => ∃ t : Nat, (t : Int) ≤ c.secs ∧ i = .int .i64 t ∧ J (ups cs (q * secsN cs + (secsN (cs.take k) + t))) wr' ∧ Kpt S W1 wr') (fun i _ => c.secs.toNat - (intOf i).toNat)
        case atStart => exact ⟨0, by omega, rfl, hJ2, Kpt.refl _ _⟩
        case round =>
          obtain ⟨t, ht, rfl, hJ3, hK3⟩ := hrel
          have hcc3 := hK3.cell hnS hcc
          by_cases hts : (t : Int) < c.secs
          · have hat : ampAt cs (q * secsN cs + (secsN (cs.take k) + t)) = c.amps := by
              have := ampAt_at (q := q) (k := k) (t := t) hlt (by rw [HZ.out]; omega)
              rw [HZ.out] at this; exact this
            obtain ⟨fn, tmps, assign, body, hy, hR⟩ := hY _ c.amps _ ⟨hc1, hc2⟩ hJ3 (hN _ _ hJ3)
            have hup : ups cs (q * secsN cs + (secsN (cs.take k) + t)) ++ [c.amps] = ups cs (q * secsN cs + (secsN (cs.take k) + (t + 1))) := by
              rw [← Nat.add_assoc, ← Nat.add_assoc, ← Nat.add_assoc, ups_succ, Nat.add_assoc, hat]
            rw [hup] at hR
            have HUP := hide hup
            clear hup hat
            gi_wp2
            refine hR.mono ?_
            rintro e W3 (⟨rfl, hJ4, hk4⟩ | ⟨rfl, hJx4⟩)
            · gi_wp2
              go_roundw
              case rel => exact ⟨t + 1, by omega, by go_num, hJ4, hK3.trans hk4⟩
              case measure => simp [intOf]; omega
            · gi_wp2
              refine bodyPost_ret (results_none rfl _ _ _) rfl ?_
              exact ⟨⟨_, rfl⟩, _, ⟨_, rfl⟩, hJx4⟩
          · gi_wp2
            go_roundw
            case rel =>
              refine ⟨k + 1, by omega, by go_num, ?_, hK2.trans hK3⟩
              rw [secsN_take hlt, HZ.out, ← (show t = c.secs.toNat from by omega)]
              exact hJ3
            case measure => simp [intOf]; omega
      · gi_wp2
        gi_roundg (N - (q + 1) * secsN cs)
        case rel =>
          refine ⟨q + 1, rfl, ?_, hK1⟩
          rw [List.take_of_length_le (by omega)] at hJ1
          rw [Nat.succ_mul]; exact hJ1
        case measure =>
          have h1 := secsN_pos HOK.out
          rw [hm.out, Nat.succ_mul]
          omega

abbrev Amp := { x : Int // 0 ≤ x ∧ x ≤ 500 }
def amps (l : List Amp) : List Int := l.map (·.1)

theorem seconds_brk (n : Nat) (hn : 1 ≤ n) (Bc b off cap N : Nat) (cs : List Cu) (hok : cycOk cs = true) (S : Nat → Prop) (w : World) (hBl : Bc < w.heap.size) (hbl : b < w.heap.size)
    (hS : ∀ k, S k → k < w.heap.size) (hSc : ¬ S Bc) (hSb : ¬ S b)
    (hBc : w.cell? ⟨Bc, 0, none⟩ = some (.slice (some ⟨b, off, none⟩) cs.length cap)) (hc : ∀ i j, i < cs.length → j < 2 → w.cell? ⟨b, off + (i * 2 + j), none⟩ = some (cyF cs i j)) :
    SeqBrk Fence.wide n Try.prog 109 #[.pointer (some ⟨Bc, 0, none⟩)] (fun x : Amp => #[.int .i64 x.1]) (Kpt S) (fun pre => ∃ s, amps pre = ups cs s) N w := by
  intro l J Jx W hW hJ hJx hN hY h0
  refine (seconds1_in Fence.wide n trivial rfl hn l Bc b off cap N cs hok S (fun pre W => ∃ p : List Amp, amps p = pre ∧ J p W) (fun pre W => ∃ p : List Amp, amps p = pre ∧ Jx p W) W
    (fun k hk => Nat.lt_of_lt_of_le (hS k hk) hW.size) hSc hSb ?_ ?_ ?_ ((hW.cell (p := ⟨Bc, 0, none⟩) hBl).trans hBc) (fun i j hi hj => (hW.cell (p := ⟨b, off + (i * 2 + j), none⟩) hbl).trans (hc i j hi hj)) ⟨[], rfl, h0⟩).mono ?_
  · rintro s A B row ⟨p, hp, hs⟩ hg hr
    exact ⟨p, hp, hJ p A B row hs hg hr⟩
  · rintro pre W1 ⟨p, rfl, hs⟩
    have := hN p W1 hs
    simpa [amps] using this
  · rintro pre x W1 hx ⟨p, rfl, hs⟩ hlen
    obtain ⟨fn, tmps, assign, body, hy, hR⟩ := hY p ⟨x, hx⟩ W1 hs (hN p W1 hs)
    refine ⟨fn, tmps, assign, body, hy, hR.mono ?_⟩
    rintro e W' (⟨he, hj, hk⟩ | ⟨he, hj⟩)
    · exact .inl ⟨he, ⟨p ++ [⟨x, hx⟩], by simp [amps], hj⟩, hk⟩
    · exact .inr ⟨he, ⟨p ++ [⟨x, hx⟩], by simp [amps], hj⟩⟩
  · rintro e W' ⟨he, pre, ⟨s, hs⟩, p, hp, hj⟩
    exact ⟨he, p, ⟨s, hp.trans hs⟩, hj⟩
end Go.Proofs.Ytejjjijaojkohaa
/- run: a body becomes warm for some seconds of a cycle: walks. -/
namespace Go.Proofs.Ytejjjijaojkohaa
open Go.RowKit Go.Shelf
attribute [local go_sem] Oper.semAt_some
set_option linter.unusedVariables false

theorem mk_seconds_in (F : Fence) (n : Nat) (h5 : F.fn 97) (hro : F.round = none) (A : Option Addr) (len cap : Nat) (w : World) :
    CallsIn F n Try.prog 97 #[.slice A len cap] w fun e w' => e = .returned (.func (.func 109) #[] #[.pointer (some ⟨w.heap.size, 0, none⟩)]) ∧ w' = w.alloc (.cells #[.slice A len cap] 31) := by
  refine callsIn_of_wp Try.func97 rfl h5 ?_ hro
  simp only [Try.ntmps97, List.size_toArray, List.length_cons, List.length_nil, Nat.reduceAdd, Nat.reduceSub, Array.replicate_succ, Array.replicate_zero, List.push_toArray, List.append_toArray, List.nil_append, List.cons_append]
  gi_wp2
  go_ret
  exact ⟨rfl, rfl⟩

/-- A body's state behind a list of currents, and the greatest on the way. -/
def runSt (f : Int → Int → Int) (r : Int) (l : List Int) : Int := l.foldl f r
def runMx (f : Int → Int → Int) (r : Int) (l : List Int) : Int := (l.foldl (fun (p : Int × Int) x => (f p.1 x, max p.2 (f p.1 x))) (r, r)).2
theorem runSt_snoc (f : Int → Int → Int) (r : Int) (l : List Int) (x : Int) : runSt f r (l ++ [x]) = f (runSt f r l) x := by simp [runSt]
theorem runMx_fst (f : Int → Int → Int) : ∀ (l : List Int) (p : Int × Int), (l.foldl (fun (p : Int × Int) x => (f p.1 x, max p.2 (f p.1 x))) p).1 = l.foldl f p.1
  | [], _ => rfl
  | x :: l, p => by simp only [List.foldl_cons]; rw [runMx_fst f l]
theorem runMx_snoc (f : Int → Int → Int) (r : Int) (l : List Int) (x : Int) : runMx f r (l ++ [x]) = max (runMx f r l) (f (runSt f r l) x) := by
  simp only [runMx, List.foldl_append, List.foldl_cons, List.foldl_nil, runMx_fst, runSt]

theorem warmI_range (g : Ga) (r i : Int) (hh0 : 0 ≤ g.heat) (hh1 : g.heat ≤ 1000) (hc0 : 0 ≤ g.cool) (hc1 : g.cool ≤ 1024) (hr0 : 0 ≤ r) (hi0 : 0 ≤ i) (hi1 : i ≤ 500) : 0 ≤ warmI g r i ∧ warmI g r i ≤ r + 61036 := by
  obtain ⟨p1, p2⟩ := mul_range hi0 hi1 hi0 hi1
  obtain ⟨p3, p4⟩ := mul_range p1 p2 hh0 hh1
  obtain ⟨p5, p6⟩ := mul_range hr0 (Int.le_refl r) hc0 hc1
  unfold warmI
  omega
theorem heatI_range (g : Fu) (r i : Int) (hh0 : 0 ≤ g.rating) (hh1 : g.rating ≤ 500) (hr0 : 0 ≤ r) (hi0 : 0 ≤ i) (hi1 : i ≤ 500) : 0 ≤ heatI g r i ∧ heatI g r i ≤ r + 250000 := by
  obtain ⟨p1, p2⟩ := mul_range hi0 hi1 hi0 hi1
  obtain ⟨p3, p4⟩ := mul_range hh0 hh1 hh0 hh1
  unfold heatI
  omega


theorem warmWire (a : Addr) (w : World) : (method 273 92 (.pointer (some a)) (invName Try.f65 0)).run Try.prog w = .ok (144, .pointer (some a)) w := by kernel_rfl
theorem secondWire (a : Addr) (w : World) : (method 273 92 (.pointer (some a)) (invName Try.f65 1)).run Try.prog w = .ok (110, .pointer (some a)) w := by kernel_rfl

/-- Between two rounds of run: what its own blocks and the body hold. -/
structure RunWire (w : World) (bw : Nat) (g : Ga) (r m : Int) (l : List Int) (W : World) : Prop where
  body : WireAt W bw g (runSt (warmI g) r l)
  iface : W.heap[w.heap.size]? = some (.cells #[.iface 92 (.pointer (some ⟨bw, 0, none⟩))] 123 (0, 0))
  left : W.heap[w.heap.size + 1]? = some (.cells #[.int .i64 (m - l.length)] 3 (0, 0))
  most : W.heap[w.heap.size + 2]? = some (.cells #[.int .i64 (runMx (warmI g) r l)] 3 (0, 0))
  only : w.grownBy W (some bw)
  size : w.heap.size + 3 ≤ W.heap.size
  lo : 0 ≤ runSt (warmI g) r l
  hi : runSt (warmI g) r l ≤ r + 61036 * l.length

theorem RunWire.turn {w : World} {bw : Nat} {g : Ga} {r m : Int} {l : List Int} {A B : World} {row : Option Nat} (h : RunWire w bw g r m l A) (hg : A.grownBy B row) (hr : ∀ k, row = some k → w.heap.size + 3 ≤ k) (hbw : bw < w.heap.size) : RunWire w bw g r m l B := by
  have hb : ∀ k, k < w.heap.size + 3 → B.heap[k]? = A.heap[k]? := fun k hk => hg.block k (Nat.lt_of_lt_of_le hk h.size) (fun e => by have := hr k e.symm; omega)
  refine ⟨(hb bw (by omega)).trans h.body, (hb _ (by omega)).trans h.iface, (hb _ (by omega)).trans h.left, (hb _ (by omega)).trans h.most, ?_, Nat.le_trans h.size hg.size, h.lo, h.hi⟩
  exact ⟨hg.os.trans h.only.os, hg.tape.trans h.only.tape, hg.output.trans h.only.output, Nat.le_trans h.only.size hg.size, fun k hk hne => (hb k (by omega)).trans (h.only.block k hk hne)⟩

theorem RunWire.step {w : World} {bw : Nat} {g : Ga} {r m : Int} {l : List Int} {W W1 : World} {x st y d : Int} (h : RunWire w bw g r m l W) (hst : runSt (warmI g) r l = st) (hW1 : WireAt W1 bw g (warmI g st x)) (hg : W.grownBy W1 (some bw)) (hbw : bw < w.heap.size)
    (hy : y = max (runMx (warmI g) r l) (warmI g st x)) (hd : d = m - l.length - 1) (hlo : 0 ≤ warmI g st x) (hhi : warmI g st x ≤ st + 61036) :
    KeepsOthers W ((W1.setCell ⟨w.heap.size + 1 + 1, 0, none⟩ (.int .i64 y)).setCell ⟨w.heap.size + 1, 0, none⟩ (.int .i64 d)).drew ∧
    Kpt (fun k => k = bw ∨ k = w.heap.size + 1 ∨ k = w.heap.size + 2) W ((W1.setCell ⟨w.heap.size + 1 + 1, 0, none⟩ (.int .i64 y)).setCell ⟨w.heap.size + 1, 0, none⟩ (.int .i64 d)).drew ∧
    RunWire w bw g r m (l ++ [x]) ((W1.setCell ⟨w.heap.size + 1 + 1, 0, none⟩ (.int .i64 y)).setCell ⟨w.heap.size + 1, 0, none⟩ (.int .i64 d)).drew := by
  have hs := h.size
  have d0 : W1.heap[w.heap.size]? = _ := (hg.block _ (by omega) (by intro e; injection e; omega)).trans h.iface
  have d1 : W1.heap[w.heap.size + 1]? = _ := (hg.block _ (by omega) (by intro e; injection e; omega)).trans h.left
  have d2 : W1.heap[w.heap.size + 1 + 1]? = _ := (hg.block _ (by omega) (by intro e; injection e; omega)).trans h.most
  refine ⟨?_, ?_, ?_⟩
  · refine ((KeepsOthers.of_grownBy hg ?_).trans ((KeepsOthers.setCell _ _ _).trans (KeepsOthers.setCell _ _ _))).trans (KeepsOthers.drew _)
    intro j o e hj
    injection e with e
    subst e
    rw [h.body] at hj
    injection hj with hj
    subst hj
    rfl
  · exact (((Kpt.grown hg (.inl rfl)).trans (Kpt.setCell _ (.inr (.inr rfl)) _)).trans (Kpt.setCell _ (.inr (.inl rfl)) _)).trans (Kpt.drew _ _)
  · subst hst
    refine ⟨?_, ?_, ?_, ?_, ?_, ?_, by rw [runSt_snoc]; exact hlo, ?_⟩
    · rw [runSt_snoc]
      exact (Below.heap_setCell _ _ _ bw (by simp; omega)).trans ((Below.heap_setCell _ _ _ bw (by simp; omega)).trans hW1)
    · exact (Below.heap_setCell _ _ _ _ (by simp <;> omega)).trans ((Below.heap_setCell _ _ _ _ (by simp <;> omega)).trans d0)
    · have := setCellOf (i := 0) ((Below.heap_setCell W1 ⟨w.heap.size + 1 + 1, 0, none⟩ (.int .i64 y) (w.heap.size + 1) (by simp)).trans d1) (.int .i64 d)
      rw [show (m - ((l ++ [x]).length : Nat) : Int) = d by rw [hd, List.length_append, List.length_singleton]; omega]
      exact this
    · rw [runMx_snoc, ← hy]
      exact (Below.heap_setCell _ _ _ _ (by simp)).trans (setCellOf (i := 0) d2 (.int .i64 y))
    · refine only_drew (only_setCell' (only_setCell' (only_trans h.only ?_) ?_ _) ?_ _)
      · exact ⟨hg.os, hg.tape, hg.output, hg.size, hg.block⟩
      · simp; omega
      · simp
    · have := hg.size
      show w.heap.size + 3 ≤ ((W1.setCell _ _).setCell _ _).heap.size
      simp [World.setCell]
      omega
    · rw [runSt_snoc, List.length_append, List.length_singleton]
      have := h.hi
      omega

set_option maxRecDepth 100000 in
set_option maxHeartbeats 2000000 in
theorem runWire_any (bw : Nat) (g : Ga) (r n : Int) (v : Value) (cs : List Cu) (w : World) (hw : WireAt w bw g r) (hbw : bw < w.heap.size) (hok : cycOk cs = true) (h : Cyc w bw v cs) (hn0 : 0 ≤ n) (hn1 : n ≤ 10000) (hh0 : 0 ≤ g.heat) (hh1 : g.heat ≤ 1000) (hc0 : 0 ≤ g.cool) (hc1 : g.cool ≤ 1024) (hr0 : 0 ≤ r) (hr1 : r + 61036 * n ≤ 1000000000) :
    Calls Try.prog 65 #[.iface 92 (.pointer (some ⟨bw, 0, none⟩)), v, .int .i64 n] w
      fun e w' => e = .returned (.int .i64 (runMx (warmI g) r (ups cs n.toNat))) ∧ WireAt w' bw g (runSt (warmI g) r (ups cs n.toNat)) ∧ w.grownBy w' (some bw) := by
  obtain ⟨A, b, off, cap, rfl, hnc, hA, hc⟩ := h
  have hlen := (cycOk_len hok).1
  obtain ⟨rfl, hb⟩ : A = some ⟨b, off, none⟩ ∧ b < bw := by
    rcases hA with h | h
    · exact h
    · omega
  clear hA
  have HC := hide hc; clear hc
  have HOK := hide hok; clear hok
  have m1 := warmWire
  have m2 := secondWire
  conv at m1 =>
    enter [a, w, 1, 2, 4]
    whnf
  conv at m2 =>
    enter [a, w, 1, 2, 4]
    whnf
  have HW := hide hw; clear hw
  by_cases hz : n = 0
  · have hz' : (n == 0) = true := by simp [hz]
    have HZ := hide hz; clear hz
    refine (callsIn_wide (n := 5)).1 ?_
    refine callsIn_of_wp_marks Try.func65 rfl trivial ?_ rfl
    simp only [Try.ntmps65, List.size_toArray, List.length_cons, List.length_nil, Nat.reduceAdd, Nat.reduceSub, Array.replicate_succ, Array.replicate_zero, List.push_toArray, List.append_toArray, List.nil_append, List.cons_append]
    gi_wp2_with (refine ⟨trivial, ?_⟩; gi_at_call 144; refine (callsIn_wide.2 (wireWarm_any bw g r _ (by unfold WireAt; rw [Below.heap_alloc _ _ _ (by simp; omega), Below.heap_alloc _ _ _ (by omega)]; exact HW.out))).mono ?_; rintro e w' ⟨rfl, rfl⟩)
    refine ⟨_, results_tmp rfl _ _ _, ?_⟩
    refine ⟨ret_int ?_, ?_, only_alloc (only_alloc (only_alloc (only_refl w _) _) _) _⟩
    · rw [HZ.out]; rfl
    · rw [HZ.out]
      unfold WireAt
      rw [Below.heap_alloc _ _ _ (by simp; omega), Below.heap_alloc _ _ _ (by simp; omega), Below.heap_alloc _ _ _ (by omega)]
      exact HW.out
  · obtain ⟨m, rfl⟩ := Int.eq_ofNat_of_zero_le hn0
    have hz' : ((m : Int) == 0) = false := by simpa using hz
    have hn2 : 1 ≤ m := by omega
    rw [Int.toNat_natCast]
    clear hz
    refine (callsIn_wide (n := 5)).1 ?_
    refine callsIn_of_wp_marks Try.func65 rfl trivial ?_ rfl
    simp only [Try.ntmps65, List.size_toArray, List.length_cons, List.length_nil, Nat.reduceAdd, Nat.reduceSub, Array.replicate_succ, Array.replicate_zero, List.push_toArray, List.append_toArray, List.nil_append, List.cons_append]
    gi_wp2_with (first | (refine ⟨trivial, ?_⟩; gi_at_call 144; refine (callsIn_wide.2 (wireWarm_any bw g r _ (by unfold WireAt; rw [Below.heap_alloc _ _ _ (by simp; omega), Below.heap_alloc _ _ _ (by omega)]; exact HW.out))).mono ?_; rintro e w' ⟨rfl, rfl⟩) | (refine ⟨trivial, ?_⟩; gi_at_call 97; refine (mk_seconds_in _ _ trivial rfl _ _ _ _).mono ?_; rintro e w' ⟨rfl, rfl⟩))
    obtain ⟨W0, hW0⟩ : ∃ W0 : World, (((w.alloc (.cells #[.iface 92 (.pointer (some ⟨bw, 0, none⟩))] 123)).alloc (.cells #[.int .i64 (m : Int)] 3)).alloc (.cells #[.int .i64 r] 3)).alloc (.cells #[.slice (some ⟨b, off, none⟩) cs.length cap] 31) = W0 := ⟨_, rfl⟩
    have hs0 : W0.heap.size = w.heap.size + 4 := by rw [← hW0]; simp
    have hB0 : Below w.heap.size w W0 := by
      rw [← hW0]; exact Below.allocT (Below.allocT (Below.allocT (Below.allocT (Below.refl _ _) (Nat.le_refl _) _) (Nat.le_refl _) _) (Nat.le_refl _) _) (Nat.le_refl _) _
    have hb0 : W0.heap[w.heap.size]? = some (.cells #[.iface 92 (.pointer (some ⟨bw, 0, none⟩))] 123 (0, 0)) := by
      rw [← hW0, heap_old _ _ _ (by simp <;> omega), heap_old _ _ _ (by simp <;> omega), heap_old _ _ _ (by simp <;> omega), heap_new _ _ _ rfl]
    have hb1 : W0.heap[w.heap.size + 1]? = some (.cells #[.int .i64 (m : Int)] 3 (0, 0)) := by
      rw [← hW0, heap_old _ _ _ (by simp <;> omega), heap_old _ _ _ (by simp <;> omega), heap_new _ _ _ (by simp)]
    have hb2 : W0.heap[w.heap.size + 2]? = some (.cells #[.int .i64 r] 3 (0, 0)) := by
      rw [← hW0, heap_old _ _ _ (by simp <;> omega), heap_new _ _ _ (by simp)]
    have hb3 : W0.cell? ⟨w.heap.size + 3, 0, none⟩ = some (.slice (some ⟨b, off, none⟩) cs.length cap) := by
      refine cellOf (t := 31) (fr := (0, 0)) (cs := #[.slice (some ⟨b, off, none⟩) cs.length cap]) ?_ 0
      rw [← hW0, heap_new _ _ _ (by simp)]
    have hbw0 : W0.heap[bw]? = w.heap[bw]? := hB0.block bw hbw
    rw [hW0]
    clear hW0
    refine wpIn_rangeFunc_brk rfl (by omega) (gf := 109) (lb := #[.pointer (some ⟨w.heap.size + 3, 0, none⟩)]) rfl trivial (enters_of Try.func109 (by kernel_rfl) rfl)
      (seconds_brk (5 - 1) (by omega) (w.heap.size + 3) b off cap m cs HOK.out (fun k => k = bw ∨ k = w.heap.size + 1 ∨ k = w.heap.size + 2) W0 (by omega) (by omega) (by omega) (by omega) (by omega) hb3
        (fun i j hi hj => (hB0.cell (p := ⟨b, off + (i * 2 + j), none⟩) (Nat.lt_trans hb hbw)).trans (HC.out i j hi hj)))
      (fun h k => h.trans k) (fun W l o o' _ h1 h2 _ => Kpt.putObj W l o o' h1 h2) (Below.refl _ _) (fun _ => rfl)
      (fun pre W => pre.length < m ∧ RunWire w bw g r m (amps pre) W)
      (fun c pre W => c = .exit 0 ∧ pre.length = m ∧ RunWire w bw g r m (amps pre) W)
      (fun s A B row hs hg hr => ⟨hs.1, hs.2.turn hg (fun k e => by have := (hr k e).1; omega) hbw⟩)
      (fun c s A B row hs hg hr => ⟨hs.1, hs.2.1, hs.2.2.turn hg (fun k e => by have := (hr k e).1; omega) hbw⟩)
      (fun pre W hs => hs.1)
      ⟨by simp; omega, ⟨hbw0.trans HW.out, hb0, by simpa [amps] using hb1, hb2, ⟨hB0.os, hB0.tape, hB0.output, hB0.size, fun k hk _ => hB0.block k hk⟩, by omega, hr0, by simp [amps, runSt]⟩⟩
      (fun x => { tmps := #[.iface 92 (.pointer (some ⟨bw, 0, none⟩)), .slice (some ⟨b, off, none⟩) cs.length cap, .int .i64 (m : Int), .pointer (some ⟨w.heap.size, 0, none⟩), undef, .pointer (some ⟨w.heap.size + 1, 0, none⟩), .int .i64 0, .pointer (some ⟨w.heap.size + 1 + 1, 0, none⟩), .int .i64 x.1, .iface 92 (.pointer (some ⟨bw, 0, none⟩)), .int .i64 r, .int .i64 (m : Int), .bool false, undef, .slice (some ⟨b, off, none⟩) cs.length cap, .func (.func 109) #[] #[.pointer (some ⟨w.heap.size + 1 + 1 + 1, 0, none⟩)], .int .i64 x.1, undef, undef, undef, undef, undef, undef, undef, undef, undef, undef, undef, undef], defers := [] }) ?assign ?body ?stop
    case assign =>
      intro l x W K hK
      gi_wp2
      exact hK
    case body =>
      rintro l pre ⟨x, hx0, hx1⟩ W ⟨hlen, hR⟩ _
      obtain ⟨st, hst⟩ : ∃ st, runSt (warmI g) r (amps pre) = st := ⟨_, rfl⟩
      obtain ⟨mx, hmx⟩ : ∃ mx, runMx (warmI g) r (amps pre) = mx := ⟨_, rfl⟩
      obtain ⟨d, hd⟩ : ∃ d : Int, (m : Int) - (amps pre).length = d := ⟨_, rfl⟩
      have hal : (amps pre).length = pre.length := by simp [amps]
      have hd1 : 1 ≤ d := by omega
      have hd2 : d ≤ 10000 := by omega
      have HR := hide hR
      obtain ⟨b0, b1, b2, b3, b4, b5, b6, b7⟩ := hR
      rw [hst] at b0 b6 b7
      rw [hmx] at b3
      rw [hd] at b2
      have hi2 : st ≤ 1000000000 := by rw [hal] at b7; omega
      have hrange := warmI_range g st x hh0 hh1 hc0 hc1 b6 hx0 hx1
      have c3 : W.cell? ⟨w.heap.size, 0, none⟩ = some (.iface 92 (.pointer (some ⟨bw, 0, none⟩))) := cellOf b1 0
      have HST := hide hst
      have HMX := hide hmx
      have HD := hide hd
      have HB := hide (And.intro b1 (And.intro b2 b3))
      have HB4 := hide b4
      have HB7 := hide b7
      have HB0 := hide b0
      clear hst hmx hd b1 b2 b3 b4 b7 b0 hal
      have hmix : Try.prog.follows .mixedOrders = true := by kernel_rfl
      gi_wp2_with (refine ⟨trivial, ?_⟩; gi_at_call 110; refine (CallsIn.inRound l (callsIn_wide.2 (wireSecond_any bw g st x _ HB0.out hh0 hh1 hc0 hc1 b6 hi2 hx0 hx1))).mono ?_; rintro e W1 ⟨rfl, hW1, hg1⟩)
      have d1 : W1.heap[w.heap.size]? = _ := (hg1.block _ (by omega) (by intro e; injection e; omega)).trans HB.out.1
      have d2 : W1.heap[w.heap.size + 1]? = _ := (hg1.block _ (by omega) (by intro e; injection e; omega)).trans HB.out.2.1
      have d3 : W1.heap[w.heap.size + 1 + 1]? = _ := (hg1.block _ (by omega) (by intro e; injection e; omega)).trans HB.out.2.2
      have e3 : W1.cell? ⟨w.heap.size, 0, none⟩ = some (.iface 92 (.pointer (some ⟨bw, 0, none⟩))) := cellOf d1 0
      have e5 : W1.cell? ⟨w.heap.size + 1, 0, none⟩ = some (.int .i64 d) := cellOf d2 0
      have e7 : W1.cell? ⟨w.heap.size + 1 + 1, 0, none⟩ = some (.int .i64 mx) := cellOf d3 0
      have f5 : W1.frozen? ⟨w.heap.size + 1, 0, none⟩ = false := unfrozenOf d2 0
      have f7 : W1.frozen? ⟨w.heap.size + 1 + 1, 0, none⟩ = false := unfrozenOf d3 0
      have HW1 := hide hW1
      have HG1 := hide hg1
      clear hW1 hg1 d1 d2 d3 c3
      gi_region_with_o (refine ⟨trivial, ?_⟩; gi_at_call 144; refine (CallsIn.inRound l (callsIn_wide.2 (wireWarm_any bw g (warmI g st x) _ (by exact HW1.out)))).mono ?_; rintro e w' ⟨rfl, rfl⟩)
      all_goals gi_wp2
      all_goals
        have hd2 : d - 1 = (m : Int) - (amps pre).length - 1 := by rw [HD.out]
        have hal : (amps pre).length = pre.length := by simp [amps]
        have hal2 : amps (pre ++ [⟨x, hx0, hx1⟩]) = amps pre ++ [x] := by simp [amps]
        first
        | (have hy : warmI g st x = max (runMx (warmI g) r (amps pre)) (warmI g st x) := by rw [HMX.out]; exact (Int.max_eq_right (by omega)).symm
           obtain ⟨k1, k2, k3⟩ := RunWire.step HR.out HST.out HW1.out HG1.out hbw hy hd2 hrange.1 hrange.2
           first
           | exact ⟨k1, k2, by have : ¬ d - 1 = 0 := by simpa using (by assumption : (d - 1 == 0) = false)
                               simp; omega, by rw [hal2]; exact k3⟩
           | exact ⟨k1, rfl, by have : d - 1 = 0 := by simpa using (by assumption : (d - 1 == 0) = true)
                                simp; omega, by rw [hal2]; exact k3⟩)
        | (have hy : mx = max (runMx (warmI g) r (amps pre)) (warmI g st x) := by rw [HMX.out]; exact (Int.max_eq_left (by omega)).symm
           obtain ⟨k1, k2, k3⟩ := RunWire.step HR.out HST.out HW1.out HG1.out hbw hy hd2 hrange.1 hrange.2
           first
           | exact ⟨k1, k2, by have : ¬ d - 1 = 0 := by simpa using (by assumption : (d - 1 == 0) = false)
                               simp; omega, by rw [hal2]; exact k3⟩
           | exact ⟨k1, rfl, by have : d - 1 = 0 := by simpa using (by assumption : (d - 1 == 0) = true)
                                simp; omega, by rw [hal2]; exact k3⟩)
    case stop =>
      clear hb0 hb1 hb2 hb3 m1 m2
      rintro D c pre W hD ⟨s, hs⟩ ⟨rfl, hlen2, hR⟩ hK
      have c7 : W.cell? ⟨w.heap.size + 1 + 1, 0, none⟩ = some (.int .i64 (runMx (warmI g) r (amps pre))) := cellOf hR.most 0
      have hsm : s = m := by
        have h1 : (amps pre).length = (ups cs s).length := by rw [hs]
        rw [ups_length] at h1
        simp [amps] at h1
        omega
      rw [hs, hsm] at c7 hR
      have HRR := hide hR
      clear hR hs hsm
      gi_wp2
      refine ⟨by simp, .inl ⟨_, _, rfl, run_takeDeferred hK, ?_⟩⟩
      refine ⟨_, results_tmp rfl _ _ _, rfl, ?_, ?_⟩
      · exact (World.putObj_heap_other (by omega)).trans HRR.out.body
      · have hg := grownBy_putObj' W D (.deferred none)
        have ho := HRR.out.only
        exact ⟨hg.os.trans ho.os, hg.tape.trans ho.tape, hg.output.trans ho.output, Nat.le_trans ho.size hg.size, fun k hk hne => (hg.block k (Nat.lt_of_lt_of_le hk ho.size) (fun e => by injection e with e; omega)).trans (ho.block k hk hne)⟩

end Go.Proofs.Ytejjjijaojkohaa

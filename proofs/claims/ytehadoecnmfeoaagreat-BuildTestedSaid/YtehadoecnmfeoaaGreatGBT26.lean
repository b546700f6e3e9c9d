/- Part 26 of this claim's texts: walks and plain laws. -/
import Derived.Test.YtehadoecnmfeoaaGreatRows
import Derived.Test.YtehadoecnmfeoaaGreatGBT25
import Derived.Deep.RegionHeld3
import Derived.Deep.DrawnRows
import Derived.Test.YtehadoecnmfeoaaGreatGBT12
import Derived.Test.YtehadoecnmfeoaaGreatGBT2
import Derived.Test.YtehadoecnmfeoaaGreatGBT11
import Derived.Test.YtehadoecnmfeoaaGreatGBT10
import Derived.BigQuiet
import Derived.Deep.DeepMust
import Derived.Test.YtehadoecnmfeoaaGreatGBT24
import Derived.Test.YtehadoecnmfeoaaGreatGBT3
import Derived.Test.YtehadoecnmfeoaaGreatGBT17
import Derived.Laws.EntriesVeiled
/- The elder way between two spots, its use of a run, its length: walks. -/
namespace Go.Proofs.YtehadoecnmfeoaaGreat
open Go.RowKit
set_option linter.unusedVariables false
set_option linter.unusedSimpArgs false
end Go.Proofs.YtehadoecnmfeoaaGreat
/- The elder greatest fill of a run: walks. -/
namespace Go.Proofs.YtehadoecnmfeoaaGreat
open Go.RowKit
set_option linter.unusedVariables false
set_option linter.unusedSimpArgs false
end Go.Proofs.YtehadoecnmfeoaaGreat
/- The runs that can be overfilled: walks. -/
namespace Go.Proofs.YtehadoecnmfeoaaGreat
open Go.RowKit
set_option linter.unusedVariables false
set_option linter.unusedSimpArgs false
def tigB (l : Lo) (k : Nat) : Bool := decide (worE l k = 0) && decide ((l.us.getD k Ru.o).room < worN l k)
def tigL (l : Lo) : List Nat := if l.err = 0 then (List.range l.us.length).filter (tigB l) else []
/-- A list of numbers and an error. -/
def TigP (L : List Nat) (er : Int) (w : World) (e : Ending) (w' : World) : Prop := ∃ v, e = .returned (.tuple #[v, .int .i64 er]) ∧ Nods w' w'.heap.size v L ∧ Below w.heap.size w w'
end Go.Proofs.YtehadoecnmfeoaaGreat
/- A loom copied: walk. -/
namespace Go.Proofs.YtehadoecnmfeoaaGreat
open Go.RowKit
set_option linter.unusedVariables false
set_option linter.unusedSimpArgs false
def spF (l : List Sp) (i j : Nat) : Value := spC (l.getD i Sp.o) j
def ruF (l : List Ru) (i j : Nat) : Value := ruC (l.getD i Ru.o) j
def plF (l : List Pl) (i j : Nat) : Value := plC (l.getD i Pl.o) j
def wiF (l : List Wi) (cv : Nat → Value) (i j : Nat) : Value := wiC (l.getD i Wi.o) (cv i) j
def nmF (l : List ByteArray) (i j : Nat) : Value := .string (l.getD i ByteArray.empty)
/-- Formulas in rows of their own. -/
structure FoO (wr : World) (B : Nat) (v : Value) (L : List (List Int)) (vs : List Value) : Prop where
  len : vs.length = L.length
  own : wr.ownsRow B 46 1 v L.length vs
  row : ∀ i, i < L.length → wr.ownsRow B 3 1 (vs.getD i undef) (L.getD i []).length ((L.getD i []).map (Value.int .i64))
/-- Numbers apart from some blocks. -/
def IntsX (w : World) (X : Nat → Prop) (v : Value) (f : List Int) : Prop :=
  ∃ (A : Option Addr) (b off cap : Nat), v = .slice A f.length cap ∧ f.length ≤ cap ∧ (A = some ⟨b, off, none⟩ ∧ b < w.heap.size ∧ ¬ X b ∨ f.length = 0) ∧ ∀ i, i < f.length → w.cell? ⟨b, off + i, none⟩ = some (.int .i64 (f.getD i 0))
/-- The copy while the wires' formulas are copied. -/
structure CpS (w0 wr : World) (rb p : Nat) (C0 C1 C2 C3 C4 C5 : Option Addr) (r0 r1 r2 r3 r4 r5 : Nat) (l : Lo) (cv : Nat → Value) (vs : List Value) : Prop where
  below : Below w0.heap.size w0 wr
  pw : w0.heap.size ≤ p
  box : wr.heap[p]? = some (.cells #[.slice C0 l.m.opts.length r0, .slice C1 l.m.rules.length r1, .slice C2 l.ss.length r2, .slice C3 l.us.length r3, .slice C4 l.ps.length r4, .slice C5 l.ws.length r5] 31 (0, 0))
  n : wr.ownsRow w0.heap.size 9 1 (.slice C0 l.m.opts.length r0) l.m.opts.length (flat l.m.opts.length 1 (nmF l.m.opts))
  f : FoO wr w0.heap.size (.slice C1 l.m.rules.length r1) l.m.rules vs
  s : wr.ownsRow w0.heap.size 155 3 (.slice C2 l.ss.length r2) l.ss.length (flat l.ss.length 3 (spF l.ss))
  u : wr.ownsRow w0.heap.size 157 4 (.slice C3 l.us.length r3) l.us.length (flat l.us.length 4 (ruF l.us))
  p : wr.ownsRow w0.heap.size 159 3 (.slice C4 l.ps.length r4) l.ps.length (flat l.ps.length 3 (plF l.ps))
  w : wr.ownsRow w0.heap.size 76 7 (.slice C5 l.ws.length r5) l.ws.length (flat l.ws.length 7 (wiF l.ws cv))
  x : ∀ i, i < l.ws.length → IntsX wr (fun b => b = rb ∨ (Value.slice C5 l.ws.length r5).ownBlock = some b) (cv i) (l.ws.getD i Wi.o).form
  rb : rb < w0.heap.size
/-- What each operation of the copy's first statement leaves. -/
def copR (w0 : World) (l : Lo) (cv : Nat → Value) (j : Nat) (v : Value) (w : World) : Prop :=
  match j with
  | 0 => w0.heap.size ≤ w.heap.size ∧ ∃ g, v = .slice (some ⟨g, 0, none⟩) 0 0 ∧ w.ownsRow w0.heap.size 155 3 v 0 []
  | 4 => w0.heap.size ≤ w.heap.size ∧ ∃ g, v = .slice (some ⟨g, 0, none⟩) 0 0 ∧ w.ownsRow w0.heap.size 157 4 v 0 []
  | 8 => w0.heap.size ≤ w.heap.size ∧ ∃ g, v = .slice (some ⟨g, 0, none⟩) 0 0 ∧ w.ownsRow w0.heap.size 159 3 v 0 []
  | 12 => w0.heap.size ≤ w.heap.size ∧ ∃ g, v = .slice (some ⟨g, 0, none⟩) 0 0 ∧ w.ownsRow w0.heap.size 76 7 v 0 []
  | 3 => w.ownsRow w0.heap.size 155 3 v l.ss.length (flat l.ss.length 3 (spF l.ss))
  | 7 => w.ownsRow w0.heap.size 157 4 v l.us.length (flat l.us.length 4 (ruF l.us))
  | 11 => w.ownsRow w0.heap.size 159 3 v l.ps.length (flat l.ps.length 3 (plF l.ps))
  | 15 => w.ownsRow w0.heap.size 76 7 v l.ws.length (flat l.ws.length 7 (wiF l.ws cv))
  | 16 => ∃ a b c d, v = .agg #[.slice none 0 0, .slice none 0 0, a, b, c, d] ∧ w.ownsRow w0.heap.size 155 3 a l.ss.length (flat l.ss.length 3 (spF l.ss)) ∧ w.ownsRow w0.heap.size 157 4 b l.us.length (flat l.us.length 4 (ruF l.us)) ∧
      w.ownsRow w0.heap.size 159 3 c l.ps.length (flat l.ps.length 3 (plF l.ps)) ∧ w.ownsRow w0.heap.size 76 7 d l.ws.length (flat l.ws.length 7 (wiF l.ws cv))
  | 17 => ∃ p, v = .pointer (some ⟨p, 0, none⟩) ∧ w0.heap.size ≤ p ∧ w.heap[p]? = some (.cells #[.slice none 0 0, .slice none 0 0, .slice none 0 0, .slice none 0 0, .slice none 0 0, .slice none 0 0] 31 (0, 0))
  | _ => True
end Go.Proofs.YtehadoecnmfeoaaGreat
/- The wires of a variant that use a run: walks. -/
namespace Go.Proofs.YtehadoecnmfeoaaGreat
open Go.RowKit
set_option linter.unusedVariables false
set_option linter.unusedSimpArgs false
/-- Whether a variant has a wire. -/
def inB (l : Lo) (v : List Bool) (i : Nat) : Bool := holB l.m (l.ws.getD i Wi.o).form v
def carE (l : Lo) (run : Int) (v : List Bool) : Int := havE l (btw run 0 ((l.us.length : Int) - 1) && decide (v.length = l.m.opts.length))
def carL (l : Lo) (run : Int) (v : List Bool) : List Nat := if carE l run v = 0 then (List.range l.ws.length).filter (fun i => thruB l run.toNat i && inB l v i) else []
end Go.Proofs.YtehadoecnmfeoaaGreat
/- The example of the laws: walk. -/
namespace Go.Proofs.YtehadoecnmfeoaaGreat
open Go.RowKit
set_option linter.unusedVariables false
set_option linter.unusedSimpArgs false
def exL : Lo := ⟨⟨[⟨#[116, 111, 119]⟩, ⟨#[104, 101, 97, 116]⟩], []⟩, [⟨0, 0, 0⟩, ⟨100, 0, 0⟩, ⟨100, 50, 0⟩, ⟨200, 0, 0⟩], [⟨0, 1, 110, 5⟩, ⟨1, 2, 50, 3⟩, ⟨1, 3, 100, 3⟩],
  [⟨⟨#[97]⟩, 0, 2⟩, ⟨⟨#[98]⟩, 2, 2⟩, ⟨⟨#[99]⟩, 3, 2⟩], [⟨⟨#[120]⟩, 0, 0, 1, 0, 2, [0]⟩, ⟨⟨#[121]⟩, 0, 1, 2, 0, 2, [1]⟩, ⟨⟨#[122]⟩, 0, 0, 2, 1, 1, [1]⟩]⟩
def allocs (w : World) : List Obj → World
  | [] => w
  | o :: r => allocs (w.alloc o) r
theorem allocs_size (w : World) : ∀ os : List Obj, (allocs w os).heap.size = w.heap.size + os.length
  | [] => rfl
  | o :: r => by
    show (allocs (w.alloc o) r).heap.size = _
    rw [allocs_size (w.alloc o) r]
    simp
    omega
theorem allocs_below (w : World) (B : Nat) (hB : B ≤ w.heap.size) : ∀ os : List Obj, Below B w (allocs w os)
  | [] => Below.refl _ _
  | o :: r => ((Below.refl B w).alloc hB o).trans (allocs_below (w.alloc o) B (by simp; omega) r)
theorem allocs_get (w : World) : ∀ (os : List Obj) (i : Nat), i < os.length → (allocs w os).heap[w.heap.size + i]? = os[i]?
  | o :: r, 0, _ => by
    show (allocs (w.alloc o) r).heap[w.heap.size]? = some o
    exact ((allocs_below (w.alloc o) (w.heap.size + 1) (by simp) r).block _ (by omega)).trans (heap_alloc_new w o)
  | o :: r, i + 1, h => by
    have := allocs_get (w.alloc o) r i (by simpa using h)
    show (allocs (w.alloc o) r).heap[w.heap.size + (i + 1)]? = r[i]?
    rw [← this]
    congr 1
    simp
    omega
end Go.Proofs.YtehadoecnmfeoaaGreat
/- Carried, both: walks. -/
namespace Go.Proofs.YtehadoecnmfeoaaGreat
open Go.RowKit
set_option linter.unusedVariables false
set_option linter.unusedSimpArgs false
theorem alloc3x {w w0 : World} {o p q : Obj} (h : ((w.alloc o).alloc p).alloc q = w0) : w0.heap[w.heap.size]? = some o ∧ w0.heap[w.heap.size + 1]? = some p ∧ w0.heap[w.heap.size + 2]? = some q ∧ Below w.heap.size w w0 ∧ w0.heap.size = w.heap.size + 3 := by
  have hw : allocs w [o, p, q] = w0 := h
  subst hw
  exact ⟨allocs_get w _ 0 (by simp), allocs_get w _ 1 (by simp), allocs_get w _ 2 (by simp), allocs_below w _ (Nat.le_refl _) _, allocs_size w _⟩
end Go.Proofs.YtehadoecnmfeoaaGreat
/- Fill, both: walks. -/
namespace Go.Proofs.YtehadoecnmfeoaaGreat
open Go.RowKit
set_option linter.unusedVariables false
set_option linter.unusedSimpArgs false
/-- The sum of the sizes of some wires. -/
def filN (l : Lo) (T : List Nat) : Int := (szsL l T).sum
/-- A number and an error. -/
def FilP (n er : Int) (w : World) (e : Ending) (w' : World) : Prop := e = .returned (.tuple #[.int .i64 n, .int .i64 er]) ∧ Below w.heap.size w w'
end Go.Proofs.YtehadoecnmfeoaaGreat
/- Meets and Implies as the elder program has them: walks. -/
namespace Go.Proofs.YtehadoecnmfeoaaGreat
open Go.RowKit
set_option linter.unusedVariables false
set_option linter.unusedSimpArgs false
/-- Those of the buildable variants in which the first k formulas hold. -/
def whereK (m : Mo) (l : List (List Int)) (k : Nat) : List (List Bool) := (l.take k).foldl whereF (allM m)
end Go.Proofs.YtehadoecnmfeoaaGreat
/- Wires that share a pin; clashes, both: walks. -/
namespace Go.Proofs.YtehadoecnmfeoaaGreat
open Go.RowKit
set_option linter.unusedVariables false
set_option linter.unusedSimpArgs false
theorem pinNe (a b c d : Int) (w : World) : (binOp BinOp.neq 74 (.agg #[.int .i64 a, .int .i64 b]) (.agg #[.int .i64 c, .int .i64 d])).run Tryz.prog w = Result.ok (.bool (!(a == c && b == d))) w := by
  cases h : a == c <;> cases h2 : b == d <;> go_simp
theorem pinEq (a b c d : Int) (w : World) : (binOp BinOp.eql 74 (.agg #[.int .i64 a, .int .i64 b]) (.agg #[.int .i64 c, .int .i64 d])).run Tryz.prog w = Result.ok (.bool (a == c && b == d)) w := by
  cases h : a == c <;> cases h2 : b == d <;> go_simp
def pinB (a b c d : Int) : Bool := a == c && b == d
def sharB (x y : Wi) : Bool := pinB x.fp x.fc y.fp y.fc || pinB x.fp x.fc y.tp y.tc || pinB x.tp x.tc y.fp y.fc || pinB x.tp x.tc y.tp y.tc
def prsL (K : List (Nat × Nat)) : List Value := K.flatMap fun p => [.int .i64 (p.1 : Nat), .int .i64 (p.2 : Nat)]
def prF (p : Nat × Nat) (j : Nat) : Value := match j with
  | 0 => .int .i64 (p.1 : Nat)
  | _ => .int .i64 (p.2 : Nat)
/-- A list of pairs of numbers in memory. -/
def Prs (w : World) (B : Nat) (v : Value) (K : List (Nat × Nat)) : Prop := Sl w B 2 v K.length (fun i j => prF (K.getD i (0, 0)) j)
/-- A list of pairs of the call's own. -/
structure ClS (w0 wr : World) (ty : Nat) (v : Value) (K : List (Nat × Nat)) : Prop where
  below : Below w0.heap.size w0 wr
  own : wr.ownsRow w0.heap.size ty 2 v K.length (prsL K)
section
variable {w0 wr w' : World} {ty : Nat} {v v1 : Value} {K : List (Nat × Nat)} {a b : Nat} {o : Obj}
theorem ClS.box {g t : Nat} {C : Array Value} (h : ClS w0 wr ty v K) (hb : wr.heap[g]? = some (.cells C t (0, 0))) (hne : ty ≠ t) (hg : (wr.alloc o).grownBy w' v.ownBlock) : w'.heap[g]? = some (.cells C t (0, 0)) :=
  (hg.block g (by have := box_lt hb; simp; omega) (fun e => ownsNot h.own hb hne e.symm)).trans (box_to hb ((Below.refl _ _).alloc (Nat.le_refl _) _))
end
/-! the clashes -/
def claB (l : Lo) (i k : Nat) : Bool := sharB (l.ws.getD i Wi.o) (l.ws.getD k Wi.o) && meeB l.m [(l.ws.getD i Wi.o).form, (l.ws.getD k Wi.o).form]
/-- The clashes of wire i with those up to k. -/
def claI (l : Lo) (i k : Nat) : List (Nat × Nat) := ((List.range k).filter fun j => decide (i < j) && claB l i j).map fun j => (i, j)
def claO (l : Lo) (i : Nat) : List (Nat × Nat) := (List.range i).flatMap fun j => claI l j l.ws.length
def claE (l : Lo) : List (Nat × Nat) := if l.err = 0 then claO l l.ws.length else []
/-- A list of pairs and an error. -/
def PrsP (K : List (Nat × Nat)) (er : Int) (w : World) (e : Ending) (w' : World) : Prop := ∃ v, e = .returned (.tuple #[v, .int .i64 er]) ∧ Prs w' w'.heap.size v K ∧ Below w.heap.size w w'
end Go.Proofs.YtehadoecnmfeoaaGreat
/- Rows of pins, and whether a pin is among them: walks. -/
namespace Go.Proofs.YtehadoecnmfeoaaGreat
open Go.RowKit
set_option linter.unusedVariables false
set_option linter.unusedSimpArgs false
/-- Pins, in memory. -/
def pnE (p : Pn) : List Value := [.int .i64 p.1, .int .i64 p.2]
theorem pnE_len (p : Pn) : (pnE p).length = 2 := rfl
theorem pnE_one (p : Pn) : ∀ v ∈ pnE p, v.oneCell' = true := fun v hv => by
  unfold pnE at hv
  simp only [List.mem_cons, List.not_mem_nil, or_false] at hv
  rcases hv with rfl | rfl <;> rfl
def pnF (p : Pn) (j : Nat) : Value := match j with
  | 0 => .int .i64 p.1
  | _ => .int .i64 p.2
theorem pnE_get (p : Pn) {j : Nat} (hj : j < 2) : (pnE p)[j]? = some (pnF p j) := by
  match j, hj with
  | 0, _ => rfl
  | 1, _ => rfl
def Pns (w : World) (B : Nat) (v : Value) (L : List Pn) : Prop := Sl w B 2 v L.length (fun i j => pnF (L.getD i (0, 0)) j)
theorem Pns.of_own {w : World} {B e : Nat} {v : Value} {L : List Pn} (h : w.ownsRow B e 2 v L.length (rowV pnE L)) : Pns w w.heap.size v L :=
  Sl.of_owns h fun i j hi hj => (rowV_get pnE_len (0, 0) hi hj).trans (pnE_get _ hj)
theorem Pns.at8 {w : World} {B : Nat} {A : Option Addr} {m q : Nat} {L : List Pn} (h : Pns w B (.slice A m q) L) {k : Nat} (hk : k < L.length) : ∃ b off a, Hid (L.getD k (0, 0) = a) ∧ A = some ⟨b, off, none⟩ ∧ b < B ∧ L.length ≤ q ∧
    w.cell? ⟨b, off + k * 2, none⟩ = some (.int .i64 a.1) ∧ w.cell? ⟨b, off + k * 2 + 1, none⟩ = some (.int .i64 a.2) := by
  obtain ⟨h1, h2, b, off, h3, h4, h5⟩ := sl_at h hk
  exact ⟨b, off, _, rfl, h3, h4, by omega, h5 0 (by omega), h5 1 (by omega)⟩
theorem Pns.up {w w' : World} {v : Value} {L : List Pn} (h : Pns w w.heap.size v L) (hb : Below w.heap.size w w') : Pns w' w'.heap.size v L := Sl.up h hb
theorem Pns.form {w : World} {B : Nat} {v : Value} {L : List Pn} (h : Pns w B v L) : ∃ A q, v = .slice A L.length q := Sl.form h
theorem own_pn {w : World} {B e n q : Nat} {A : Option Addr} {L : List Pn} (h : w.ownsRow B e 2 (.slice A n q) L.length (rowV pnE L)) {k : Nat} (hk : k < L.length) : ∃ g a, Hid (L.getD k (0, 0) = a) ∧ A = some ⟨g, 0, none⟩ ∧ B ≤ g ∧ g < w.heap.size ∧ n = L.length ∧ L.length ≤ q ∧
    w.cell? ⟨g, k * 2, none⟩ = some (.int .i64 a.1) ∧ w.cell? ⟨g, k * 2 + 1, none⟩ = some (.int .i64 a.2) ∧ (∀ j, w.frozen? ⟨g, j, none⟩ = false) := by
  have hh := h
  rcases hh.2 with ⟨_, hl⟩ | ⟨g, cap, cur, hv, hB, hg, hnc, _⟩
  · omega
  injection hv with e1 e2 e3
  subst e1 e2 e3
  have cellAt : ∀ j, j < 2 → w.cell? ⟨g, k * 2 + j, none⟩ = some (pnF (L.getD k (0, 0)) j) := fun j hj => by
    have h2 := h.cellAt (k * 2 + j) (by have : (k + 1) * 2 ≤ L.length * 2 := Nat.mul_le_mul_right _ hk; omega)
    rw [rowV_get pnE_len (0, 0) hk hj, pnE_get _ hj] at h2
    exact h2
  exact ⟨g, _, rfl, rfl, hB, box_lt hg, rfl, hnc, cellAt 0 (by omega), cellAt 1 (by omega), fun j => h.frozenAt j⟩
theorem idxI_pin (L : List Pn) (p : Pn) : decide (0 ≤ idxI (fun x => x == p) L) = L.contains p := by
  rw [idxI_any, Bool.eq_iff_iff]
  simp
set_option maxRecDepth 100000 in
theorem indexP_any (L : List Pn) (p : Pn) (v : Value) (w : World) (hm : L.length ≤ maxLen) (h : Pns w w.heap.size v L) :
    Calls Tryz.prog 233 #[v, .agg #[.int .i64 p.1, .int .i64 p.2]] w fun e w' => e = .returned (.int .i64 (idxI (fun x => x == p) L)) ∧ Below w.heap.size w w' := by
  unfold maxLen at hm
  obtain ⟨A, cap, rfl⟩ := h.form
  have H := hide h
  clear h
  go_enter Tryz.func233, Tryz.ntmps233
  go_upto_region 1 with (fail)
  generalize hw0 : World.alloc _ _ = w0
  obtain ⟨hb0, hB0, hs0⟩ := alloc1 hw0
  obtain ⟨pb, hpb⟩ : ∃ z, w.heap.size = z := ⟨_, rfl⟩
  have HB0 := hide hB0
  rw [hpb] at hb0 ⊢
  have HX0 := hide hb0
  have HP : Hid (Pns w0 w0.heap.size (.slice A L.length cap) L) := H.out.up HB0.out
  have HBp : Hid (Below pb w w0) := by rw [← hpb]; exact HB0
  have hpw : pb ≤ w0.heap.size := by rw [← hpb]; exact hB0.size
  have HPW := hide hpw
  clear hw0 hB0 hs0 hb0 hpw
  obtain ⟨W0, hW0⟩ : ∃ wo : World, wo = w0 := ⟨_, rfl⟩
  subst hW0
  go_wp2
  go_loopw [5, 8] (fun _ i wr => ∃ k : Nat, k ≤ L.length ∧ i = .int .i64 k ∧ Hid (∀ j, j < k → (L.getD j (0, 0) == p) = false) ∧ Hid (Below W0.heap.size W0 wr)) (fun _ i _ => L.length - (intOf i).toNat)
  case atStart => exact ⟨0, Nat.zero_le _, rfl, fun j hj => by omega, Below.refl _ _⟩
  case round =>
    obtain ⟨k, hk, rfl, hall, HW⟩ := hrel
    by_cases hlt : k < L.length
    case neg =>
      have hlt1 : ¬ (k : Int) < (L.length : Int) := by omega
      go_wp2
      go_ret
      exact ⟨ret_int (idxI_none _ (0, 0) L (fun j hj => hall.out j (by omega))).symm, Below.trans HBp.out (HW.out.mono HPW.out)⟩
    case pos =>
      have hlt1 : (k : Int) < (L.length : Int) := by omega
      have ik0 : (0 : Int) ≤ (k : Int) := by omega
      obtain ⟨b, off, x, HX, hA, hbb, hq, c0, c1⟩ := (HP.out.up HW.out).at8 hlt
      subst hA
      have HXr := hide (box_to HX0.out HW.out)
      have x0 := cellOf HXr.out 0
      have x1 := cellOf HXr.out 1
      have lx := box_lt HXr.out
      have iq : (L.length : Int) ≤ (cap : Int) := by omega
      have he := fun w => pinEq p.1 p.2 x.1 x.2 w
      by_cases hx : x = p
      · have he1 : (p.1 == x.1 && p.2 == x.2) = true := by rw [hx]; simp
        rw [he1] at he
        have HE := hide hx
        clear hx he1 hq
        go_upto_region 4 with (fail)
        refine wp_region_held_drew (S := (fun w' => Below wr.heap.size wr w')) (by kernel_rfl) ?_ (fun hHeld => ?_)
        · try dsimp only
          exact (by repeat (first | exact Below.refl _ _ | assumption | refine Below.drew ?_ | refine Below.drewN ?_ _ | refine Below.allocT ?_ (Nat.le_refl _) _ | refine Below.setCell ?_ (by simp <;> omega) _ | refine Below.to ?_ (by assumption) (Nat.le_refl _)))
        refine zT 0 rfl ?_
        refine zT 1 rfl ?_
        refine zT 2 rfl ?_
        refine zT 3 rfl ?_
        refine zT 4 rfl ?_
        refine zT 5 rfl ?_
        refine wpAnyH_done (by kernel_rfl) ?_ _
        go_wp2
        go_ret
        exact ⟨ret_int (idxI_at _ (0, 0) L k hall.out hlt (by rw [HX.out, HE.out]; simp)).symm, by first | exact Below.trans HBp.out ((Below.to HW.out hHeld (Nat.le_refl _)).mono HPW.out) | exact Below.trans HB0.out ((Below.to HW.out hHeld (Nat.le_refl _)).mono HB0.out.size)⟩
      · have he1 : (p.1 == x.1 && p.2 == x.2) = false := by
          rw [Bool.eq_false_iff]
          intro h
          rw [Bool.and_eq_true, beq_iff_eq, beq_iff_eq] at h
          exact hx (Prod.ext h.1.symm h.2.symm)
        rw [he1] at he
        have HE := hide hx
        clear hx he1 hq
        go_upto_region 4 with (fail)
        refine wp_region_held_drew (S := (fun w' => Below wr.heap.size wr w')) (by kernel_rfl) ?_ (fun hHeld => ?_)
        · try dsimp only
          exact (by repeat (first | exact Below.refl _ _ | assumption | refine Below.drew ?_ | refine Below.drewN ?_ _ | refine Below.allocT ?_ (Nat.le_refl _) _ | refine Below.setCell ?_ (by simp <;> omega) _ | refine Below.to ?_ (by assumption) (Nat.le_refl _)))
        refine zT 0 rfl ?_
        refine zT 1 rfl ?_
        refine zT 2 rfl ?_
        refine zT 3 rfl ?_
        refine zT 4 rfl ?_
        refine zT 5 rfl ?_
        refine wpAnyH_done (by kernel_rfl) ?_ _
        go_wp2
        go_roundw
        case rel => exact ⟨k + 1, by omega, by go_num, fun j hj => by
            rcases Nat.lt_or_ge j k with h | h
            · exact hall.out j h
            · rw [show j = k from by omega, HX.out]; simpa using HE.out, Below.to HW.out hHeld (Nat.le_refl _)⟩
        case measure => simp [intOf]; omega
set_option maxRecDepth 100000 in
theorem containsP_any (L : List Pn) (p : Pn) (v : Value) (w : World) (c : Bool) (hm : L.length ≤ maxLen) (h : Pns w w.heap.size v L) (hc : L.contains p = c) :
    Calls Tryz.prog 174 #[v, .agg #[.int .i64 p.1, .int .i64 p.2]] w fun e w' => e = .returned (.bool c) ∧ Below w.heap.size w w' := by
  have he : c = decide (0 ≤ idxI (fun x => x == p) L) := by rw [idxI_pin, hc]
  have HE := hide he
  have H := hide h
  clear he h hc
  go_enter Tryz.func174, Tryz.ntmps174
  go_upto_region 1 with (fail)
  generalize hw0 : World.alloc _ _ = w0
  obtain ⟨hb0, hB0, hs0⟩ := alloc1 hw0
  have x0 := cellOf hb0 0
  have x1 := cellOf hb0 1
  have lx := box_lt hb0
  have HB0 := hide hB0
  clear hw0 hB0 hs0 hb0
  go_wp2_with (go_at_call 233; refine (indexP_any L p v _ hm (H.out.up HB0.out)).mono ?_; rintro e w1 ⟨rfl, hB1⟩; clear x0 x1 lx)
  go_ret
  exact ⟨ret_bool HE.out.symm, Below.to HB0.out hB1 (Nat.le_refl _)⟩
end Go.Proofs.YtehadoecnmfeoaaGreat
/- Reels (the program): walk of the whole. -/
namespace Go.Proofs.YtehadoecnmfeoaaGreat
open Go.RowKit
set_option linter.unusedVariables false
set_option linter.unusedSimpArgs false
/-- A list of numbers and an error. -/
def RelP (L : List Nat) (er : Int) (w : World) (e : Ending) (w' : World) : Prop := ∃ v, e = .returned (.tuple #[v, .int .i64 er]) ∧ Nods w' w'.heap.size v L ∧ Below w.heap.size w w'
def relR (ps : List Int) (len : Int) : List Nat := if relB ps len = true then relL ps len else []
theorem LefAt.same12 {w : World} {b t : Nat} {L L' : Nat → Int} (h : LefAt w b t L) (hL : ∀ i, i < 12 → L i = L' i) : LefAt w b t L' := by
  obtain ⟨C, h1, h2, h3⟩ := h
  exact ⟨C, h1, h2, fun i hi => by rw [← hL i hi]; exact h3 i hi⟩
theorem LefAt.zero {w : World} {b t : Nat} (h : w.heap[b]? = some (.cells #[.int .i64 0, .int .i64 0, .int .i64 0, .int .i64 0, .int .i64 0, .int .i64 0, .int .i64 0, .int .i64 0, .int .i64 0, .int .i64 0, .int .i64 0, .int .i64 0] t (0, 0))) : LefAt w b t (fun _ => 0) :=
  ⟨_, h, rfl, fun i hi => by
    match i, hi with
    | 0, _ => rfl
    | 1, _ => rfl
    | 2, _ => rfl
    | 3, _ => rfl
    | 4, _ => rfl
    | 5, _ => rfl
    | 6, _ => rfl
    | 7, _ => rfl
    | 8, _ => rfl
    | 9, _ => rfl
    | 10, _ => rfl
    | 11, _ => rfl⟩
set_option maxRecDepth 100000 in
set_option maxHeartbeats 4000000 in
theorem Reels_any (ps : List Int) (len : Int) (A : Option Addr) (q : Nat) (w : World) (hm : ps.length ≤ maxLen) (h : Ints w w.heap.size (.slice A ps.length q) ps) :
    Calls Tryz.prog 53 #[.slice A ps.length q, .int .i64 len] w (RelP (relR ps len) (relE ps len) w) := by
  have H := hide h
  have HM := hide hm
  unfold maxLen at hm
  clear h
  by_cases hb : relB ps len = true
  case neg =>
    have h1 : relR ps len = [] := by unfold relR; rw [if_neg hb]
    have h2 : relE ps len = 121 := by unfold relE; rw [if_neg hb]
    rw [h1, h2]
    have hbf : relB ps len = false := by simpa using hb
    unfold relB at hbf
    clear h1 h2 hb
    cases hw : btw len 1 1000000 with
    | false =>
      have HW := hide hw
      clear hw hbf
      go_enter Tryz.func53, Tryz.ntmps53
      go_upto_region 1 with (fail)
      generalize hw0 : World.alloc _ _ = w0
      obtain ⟨hb0, hb1, hB0, hs0⟩ := alloc2 hw0
      have c0 := cellOf hb1 0
      have hl := box_lt hb1
      have HB0 := hide hB0
      clear hw0 hb0 hb1 hB0 hs0
      go_wp2_with (go_at_call 72; refine (bwithin_any _ _ _ _ _ HW.out).mono ?_; rintro e w1 ⟨rfl, rfl⟩)
      go_ret2
      exact ⟨_, rfl, Sl.nil _ _ _ _, HB0.out⟩
    | true =>
      rw [hw, Bool.true_and] at hbf
      have HW := hide hw
      clear hw
      by_cases hlen : ps.length ≤ 12
      case neg =>
        have hgt : (12 : Int) < (ps.length : Int) := by omega
        clear hbf
        go_enter Tryz.func53, Tryz.ntmps53
        go_upto_region 1 with (fail)
        generalize hw0 : World.alloc _ _ = w0
        obtain ⟨hb0, hb1, hB0, hs0⟩ := alloc2 hw0
        have c0 := cellOf hb1 0
        have hl := box_lt hb1
        have d0 := cellOf hb0 0
        have hl0 := box_lt hb0
        have HB0 := hide hB0
        clear hw0 hb0 hb1 hB0 hs0
        go_wp2_with (go_at_call 72; refine (bwithin_any _ _ _ _ _ HW.out).mono ?_; rintro e w1 ⟨rfl, rfl⟩)
        go_ret2
        exact ⟨_, rfl, Sl.nil _ _ _ _, HB0.out⟩
      case pos =>
        rw [decide_eq_true hlen, Bool.true_and] at hbf
        have hany : ps.any (fun p => !btw p 1 len) = true := by
          rw [List.all_eq_false] at hbf
          obtain ⟨x, hx, hx2⟩ := hbf
          exact List.any_eq_true.2 ⟨x, hx, by simpa using hx2⟩
        have hgt : ¬ (12 : Int) < (ps.length : Int) := by omega
        have HANY := hide hany
        clear hbf hany
        go_enter Tryz.func53, Tryz.ntmps53
        go_upto_region 1 with (fail)
        generalize hw0 : World.alloc _ _ = w0
        obtain ⟨hb0, hb1, hB0, hs0⟩ := alloc2 hw0
        have HL1 := hide hb1
        have c0 := cellOf hb1 0
        have hl := box_lt hb1
        have d0 := cellOf hb0 0
        have hl0 := box_lt hb0
        have HB0 := hide hB0
        clear hw0 hb0 hb1 hB0 hs0
        go_wp2_with (first | (go_at_call 72; refine (bwithin_any _ _ _ _ _ HW.out).mono ?_; rintro e w1 ⟨rfl, rfl⟩) | (go_at_call 70; refine (contains_piece (fun p => !btw p 1 len) (.pointer (some ⟨w.heap.size + 1, 0, none⟩)) _ ps w0 HM.out (Ints.up H.out HB0.out) (fun i x W _ _ hW => piece_any x len _ W (box_to HL1.out hW))).mono ?_; rw [HANY.out]; rintro e w2 ⟨rfl, hB2⟩; have HB2 := hide (Below.to HB0.out hB2 (Nat.le_refl _)); clear hB2 c0 hl d0 hl0))
        go_ret2
        exact ⟨_, rfl, Sl.nil _ _ _ _, HB2.out⟩
  case pos =>
  have h1 : relR ps len = relL ps len := by unfold relR; rw [if_pos hb]
  have h2 : relE ps len = 0 := by unfold relE; rw [if_pos hb]
  obtain ⟨Z, hZ⟩ : ∃ Z, relL ps len = Z := ⟨_, rfl⟩
  rw [h1, h2, hZ]
  have HSOME := hide (rel_some hb)
  have HZ := hide hZ
  unfold relB at hb
  simp only [Bool.and_eq_true, decide_eq_true_eq] at hb
  obtain ⟨⟨hw, hlen⟩, hall⟩ := hb
  have hw' := btw_iff.1 hw
  obtain ⟨len1, len2⟩ := hw'
  have HW := hide hw
  have hgt : ¬ (12 : Int) < (ps.length : Int) := by omega
  have hany : ps.any (fun p => !btw p 1 len) = false := by
    rw [List.any_eq_false]
    intro x hx
    have := List.all_eq_true.1 hall x hx
    simp [this]
  have hpr : ∀ p ∈ ps, 1 ≤ p ∧ p ≤ len := fun p hp => btw_iff.1 (List.all_eq_true.1 hall p hp)
  have HPR := hide hpr
  have HANY := hide hany
  clear h1 h2 hZ hw hall hany hpr
  go_enter Tryz.func53, Tryz.ntmps53
  go_upto_region 1 with (fail)
  generalize hw0 : World.alloc _ _ = w0
  obtain ⟨hb0, hb1, hB0, hs0⟩ := alloc2 hw0
  have HL0 := hide hb0
  have HL1 := hide hb1
  have c0 := cellOf hb1 0
  have hl := box_lt hb1
  have d0 := cellOf hb0 0
  have hl0 := box_lt hb0
  have HB0 := hide hB0
  have HS0 := hide hs0
  clear hw0 hb0 hb1 hB0 hs0
  go_upto_region 4 with (first | (go_at_call 72; refine (bwithin_any _ _ _ _ _ HW.out).mono ?_; rintro e w1 ⟨rfl, rfl⟩) | (go_at_call 70; refine (contains_piece (fun p => !btw p 1 len) (.pointer (some ⟨w.heap.size + 1, 0, none⟩)) _ ps w0 HM.out (Ints.up H.out HB0.out) (fun i x W _ _ hW => piece_any x len _ W (box_to HL1.out hW))).mono ?_; rw [HANY.out]; rintro e w2 ⟨rfl, hB2⟩; have HL02 := hide (heap_below HL0.out hB2); have HL12 := hide (heap_below HL1.out hB2); have HB02 := hide hB2; have HB2 := hide (Below.to HB0.out hB2 (Nat.le_refl _)); clear hB2 c0 hl d0 hl0))
  generalize hw3 : World.alloc _ _ = w3
  obtain ⟨hb3, hB3, hs3⟩ := alloc1 hw3
  have HLF := hide (LefAt.zero hb3)
  have HS3 := hide hs3
  have HB3 := hide hB3
  clear hw3 hb3 hB3 hs3
  go_wp2_with fail
  go_loopw [7, 24] (fun _ i wr => ∃ k : Nat, i = .int .i64 k ∧ k ≤ 12 ∧ Hid (Below w2.heap.size w2 wr) ∧ Hid (w2.heap.size < wr.heap.size) ∧ Hid (LefAt wr w2.heap.size 160 (fun i => if i < k then len else 0))) (fun _ i _ => 12 - (intOf i).toNat)
  case atStart => exact ⟨0, rfl, by omega, HB3.out, by show _ < _; have := HS3.out; omega, HLF.out.same (fun i => by simp)⟩
  case round =>
    obtain ⟨k, rfl, hk, HB, HSZ, HLFr⟩ := hrel
    by_cases hk12 : k < 12
    · have ik : (k : Int) < 12 := by omega
      have ik0 : (0 : Int) ≤ (k : Int) := by omega
      obtain ⟨z1, z2, z3⟩ := HLFr.out.cell hk12
      have hb1 := (HB.out.block _ (box_lt HL12.out)).trans HL12.out
      have c0 := cellOf hb1 0
      have hl := box_lt hb1
      clear hb1
      go_upto_region 8 with (fail)
      have hset := HLFr.out.set hk12 len
      have hB9 : Below w2.heap.size w2 (wr.setCell ⟨w2.heap.size, k, none⟩ (.int .i64 len)) := Below.setCell HB.out (Nat.le_refl _) _
      have hsz9 : w2.heap.size < (wr.setCell ⟨w2.heap.size, k, none⟩ (.int .i64 len)).heap.size := by simpa [World.setCell] using HSZ.out
      generalize hw9 : World.setCell _ _ _ = w9 at hset hB9 hsz9 ⊢
      have HSET := hide hset
      have HB9 := hide hB9
      have HSZ9 := hide hsz9
      clear hw9 hset hB9 hsz9 z1 z2 z3 c0 hl
      go_wp2_with fail
      go_roundw
      case rel => exact ⟨k + 1, by go_num, by omega, HB9.out, HSZ9.out, HSET.out.same (fun i => by
        unfold updL
        by_cases e : i = k
        · subst e; simp
        · rw [if_neg e]
          show (if i < k then len else 0) = _
          by_cases e2 : i < k
          · rw [if_pos e2, if_pos (by omega)]
          · rw [if_neg e2, if_neg (by omega)])⟩
      case measure => simp [intOf]; omega
    · have ik : ¬ (k : Int) < 12 := by omega
      go_upto_region 12 with (fail)
      generalize hw10 : World.alloc _ _ = w10
      obtain ⟨ho0, ho1, hB10, hs10⟩ := alloc2 hw10
      obtain ⟨op, hop⟩ : ∃ n, wr.heap.size = n := ⟨_, rfl⟩
      obtain ⟨lp, hlp⟩ : ∃ n, w2.heap.size = n := ⟨_, rfl⟩
      obtain ⟨pp, hpp⟩ : ∃ n, w.heap.size = n := ⟨_, rfl⟩
      have q1 : pp + 2 ≤ lp := by have h1 := HS0.out; have h2 := HB02.out.size; omega
      have q2 : lp < op := by have h1 := HSZ.out; omega
      have hRl : RlAt w w10 (op + 2) op pp lp (op + 1) (.slice A ps.length q) (fun _ => len) (.slice none 0 0) [] := by
        refine ⟨?_, ?_, ?_, ?_, ?_, World.ownsRow_nil _ _ _ _, ⟨?_, ?_, ?_⟩, ⟨?_, ?_, ?_, ?_⟩, ⟨?_, ?_, ?_, ?_, ?_⟩, ?_⟩
        · exact Below.to (Below.to HB2.out HB.out (Nat.le_refl _)) hB10 (Nat.le_refl _)
        · have h1 := (HB.out.block _ (box_lt HL02.out)).trans HL02.out
          rw [← hpp]
          exact heap_below h1 hB10
        · rw [← hlp]
          exact (HLFr.out.of (hB10.block _ HSZ.out)).same12 (fun i hi => by show (if i < k then len else 0) = len; rw [if_pos (by omega)])
        · rw [← hop]; exact ho0
        · rw [← hop, ← hlp, ← hpp]; exact ho1
        all_goals omega
      rw [hop, hlp, hpp]
      have HR := hide hRl
      clear hw10 ho0 ho1 hB10 hs10 hRl hop hlp hpp
      go_wp2_with fail
      go_loopw [10] (fun i wr => ∃ (k : Nat) (ov : Value), i = .int .i64 k ∧ k ≤ ps.length ∧ Hid (∀ j, j < k → rlS j ps (fun _ => len) 0 = none) ∧ Hid (RlAt w wr (op + 2) op pp lp (op + 1) (.slice A ps.length q) (fun _ => len) ov [])) (fun i _ => ps.length - (intOf i).toNat)
      case atStart => exact ⟨0, _, rfl, Nat.zero_le _, fun j hj => absurd hj (by omega), HR.out⟩
      case round =>
        obtain ⟨k3, ov, rfl, hk2, HNO, R⟩ := hrel
        have n0 := cellOf R.out.nc 0
        have ln := box_lt R.out.nc
        have hcl := next_any ps len hlen HPR.out len2 A q w H.out (op + 2) op pp lp (op + 1) k3 (by omega) ps.length [] (fun _ => len) 0 ov _ R.out (by simp) (by omega) (fun _ => ⟨by omega, by omega⟩)
        rw [List.length_nil, List.drop_zero] at hcl
        obtain ⟨rc, hrc⟩ : ∃ rc, rlS k3 ps (fun _ => len) 0 = rc := ⟨_, rfl⟩
        rw [hrc] at hcl
        have HRC := hide hrc
        have HCL := hide hcl
        clear hrc hcl
        cases rc with
        | some R' =>
          have hz := rel_at HNO.out HRC.out hk2
          rw [HZ.out] at hz
          subst hz
          go_wp2_with (go_at_call 118; refine HCL.out.mono ?_; rintro e w6 ⟨ov6, L6, rfl, hW6⟩; have x0 := cellOf hW6.oc 0; have lx := box_lt hW6.oc; have HW6 := hide hW6; clear hW6 n0 ln)
          go_ret2
          exact ⟨_, rfl, Nods.of_own HW6.out.own, HW6.out.below⟩
        | none =>
          have hkn : k3 < ps.length := by
            rcases Nat.lt_or_ge k3 ps.length with h1 | h1
            · exact h1
            · exfalso
              have h2 := HSOME.out
              rw [show ps.length = k3 by omega, HRC.out] at h2
              cases h2
          go_wp2_with (go_at_call 118; refine HCL.out.mono ?_; rintro e w6 ⟨ov6, rfl, hW6⟩; have HW6 := hide hW6; clear hW6 n0 ln)
          go_roundw
          case rel => exact ⟨k3 + 1, _, by go_num, by omega, fun j hj => by
              rcases Nat.lt_or_ge j k3 with h1 | h1
              · exact HNO.out j h1
              · rw [show j = k3 by omega]; exact HRC.out, HW6.out⟩
          case measure => simp [intOf]; omega
end Go.Proofs.YtehadoecnmfeoaaGreat
/- Reels (the elder): walk of the search. -/
namespace Go.Proofs.YtehadoecnmfeoaaGreat
open Go.RowKit
set_option linter.unusedVariables false
set_option linter.unusedSimpArgs false
theorem ints_own7 {w : World} {base : Nat} {v : Value} {l : List Int} (h : w.ownsRow base 3 1 v l.length (l.map (Value.int .i64))) : Ints w w.heap.size v l :=
  Sl.of_owns h fun i j hi hj => by
    obtain rfl : j = 0 := by omega
    rw [Nat.mul_one, Nat.add_zero, List.getElem?_map]
    simp [hi]
/-- A row of the call's own that is not empty. -/
theorem own_at7 {wr : World} {B e sz n q : Nat} {A : Option Addr} {xs : List Value} (h : wr.ownsRow B e sz (.slice A n q) n xs) (hn : 0 < n) : ∃ g, A = some ⟨g, 0, none⟩ ∧ B ≤ g ∧ n ≤ q ∧ ∃ cur, wr.heap[g]? = some (.cells cur e (0, 0)) := by
  rcases h.2 with ⟨_, h0⟩ | ⟨g, cap, cur, hv, hgb, hgh, hnc, _⟩
  · omega
  · injection hv with e1 e2 e3
    subst e1 e3
    exact ⟨g, rfl, hgb, hnc, cur, hgh⟩
/-- What the search returns. -/
def RrP (S : List Nat) (res : Option (List Nat)) (w : World) (e : Ending) (w' : World) : Prop :=
  match res with
  | some R => ∃ v, e = .returned (.tuple #[v, .bool true]) ∧ Nods w' w'.heap.size v (S ++ R) ∧ Below w.heap.size w w'
  | none => e = .returned (.tuple #[.slice none 0 0, .bool false]) ∧ Below w.heap.size w w'
def lefU (len : Int) (U : List Int) (i : Nat) : Int := len - U.getD i 0
end Go.Proofs.YtehadoecnmfeoaaGreat
/- Reels (the elder): walk of the whole. -/
namespace Go.Proofs.YtehadoecnmfeoaaGreat
open Go.RowKit
set_option linter.unusedVariables false
set_option linter.unusedSimpArgs false
theorem made_ints (N : Nat) : madeCells #[.int .i64 0] N = (((List.replicate N (0 : Int)).map (Value.int .i64)).toArray) := by
  apply Array.ext
  · simp [madeCells]
  · intro i h1 h2
    simp [madeCells, Nat.mod_one]
end Go.Proofs.YtehadoecnmfeoaaGreat

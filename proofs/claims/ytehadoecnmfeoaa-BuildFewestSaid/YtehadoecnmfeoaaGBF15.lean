/- Part 15 of this claim's texts: walks and plain laws. -/
import Derived.Test.YtehadoecnmfeoaaRows
import Derived.Test.YtehadoecnmfeoaaGBF14
import Derived.Laws.MakeOwn
import Derived.Test.YtehadoecnmfeoaaGBF8
import Derived.WalkLawsBesides
import Derived.WalkSpells
import Derived.Deep.QuietTactic
import Derived.Test.YtehadoecnmfeoaaGBF11
import Derived.OwnWalk
import Derived.Deep.DeepMust
import Derived.Deep.RegionHeld3
import Derived.Deep.DrawnRows
/- Most: walk. -/
namespace Go.Proofs.Ytehadoecnmfeoaa
open Go.RowKit
open Go.Maps (Keyed)
set_option linter.unusedVariables false
set_option linter.unusedSimpArgs false
theorem Stk.push {B : Nat} {w w1 : World} {F : Fo} {A : Option Addr} {n cap m : Nat} {S : List Nat} {v1 : Value} {o : Obj} (h : Stk B w F (.slice A n cap) S) (hF : FoAt w F) (hown : w1.ownsRow B 3 1 v1 (S.length + 1) ((S.map fun (n : Nat) => Value.int .i64 n) ++ [.int .i64 (m : Nat)])) (hg : (w.alloc o).grownBy w1 (Value.slice A n cap).ownBlock)
    (hat : v1.ownBlock = (Value.slice A n cap).ownBlock ∨ v1.ownBlock = some (w.alloc o).heap.size) : Stk B w1 F v1 (S ++ [m]) ∧ Keeps (fun i => (Value.slice A n cap).ownBlock = some i) w w1 := by
  refine ⟨⟨?_, fun b hb hs => ?_⟩, Keeps.trans ((Keeps.refl _ w).alloc _) (Keeps.of_grown hg (fun k hk => hk)) (fun _ _ h => h)⟩
  · rw [List.length_append, List.length_singleton, List.map_append]; exact hown
  · rcases hat with e | e
    · exact h.2 b (by rw [← hb, e]) hs
    · rw [hb] at e
      injection e with e
      have := hF.slt hs
      simp at e
      omega
def Bols (w : World) (B : Nat) (v : Value) (l : List Bool) : Prop := Sl w B 1 v l.length (fun i _ => .bool (l.getD i false))
/-- A variant being made: the first choices, and then none. -/
def VarAt (w : World) (b N : Nat) (l : List Bool) : Prop := w.heap[b]? = some (.cells ((l ++ List.replicate (N - l.length) false).map Value.bool).toArray 4 (0, 0))
theorem VarAt.cell {w : World} {b N : Nat} {l : List Bool} (h : VarAt w b N l) (hl : l.length < N) : w.cell? ⟨b, l.length, none⟩ = some (.bool false) := by
  rw [cellOf h]
  simp only [List.getElem?_toArray, List.getElem?_map]
  rw [List.getElem?_append_right (Nat.le_refl _), Nat.sub_self, List.getElem?_replicate, if_pos (by omega)]
  rfl
theorem VarAt.set {w : World} {b N : Nat} {l : List Bool} (h : VarAt w b N l) (hl : l.length < N) (x : Bool) : VarAt (w.setCell ⟨b, l.length, none⟩ (.bool x)) b N (l ++ [x]) := by
  unfold VarAt
  rw [setCellOf h]
  congr 2
  rw [List.setIfInBounds_toArray]
  congr 1
  have e : N - l.length = (N - (l ++ [x]).length) + 1 := by simp; omega
  rw [e, List.replicate_succ]
  simp
theorem VarAt.bols {w : World} {b : Nat} {l : List Bool} (h : VarAt w b l.length l) : Bols w w.heap.size (.slice (some ⟨b, 0, none⟩) l.length l.length) l :=
  ⟨_, b, 0, _, rfl, Nat.le_refl _, .inl ⟨rfl, box_lt h⟩, fun i j hi hj => by
    obtain rfl : j = 0 := by omega
    rw [Nat.mul_one, Nat.add_zero, Nat.zero_add, cellOf h]
    simp [hi]⟩
theorem made_bools (N : Nat) : madeCells #[.bool false] N = (((List.replicate N false).map Value.bool).toArray) := by
  apply Array.ext
  · simp [madeCells]
  · intro i h1 h2
    simp [madeCells, Nat.mod_one]
theorem infoBool : (Try.prog.info? 4).map (fun i => (i.zero, i.size, i.bytes)) = some (some (.bool false), 1, 1) := by kernel_rfl
/-- What Most gives where nothing is wrong. -/
def MostR (m : Mo) (l : List (List Int)) (ws : List Int) (w : World) (e : Ending) (w' : World) : Prop :=
  ∃ v x, e = .returned (.tuple #[.int .i64 (bestF m l ws), v, .int .i64 0]) ∧ (exts m.opts.length []).find? (fun y => valF m l ws y == bestF m l ws) = some x ∧ x.length = m.opts.length ∧ Bols w' w'.heap.size v x ∧ Below w.heap.size w w'
theorem fsum_bd (v : Nat → Bool) : ∀ (a : List (List Int)) (ws : List Int), (∀ x ∈ ws, -1000000 ≤ x ∧ x ≤ 1000000) → -1000000 * (a.length : Int) ≤ fsum v a ws ∧ fsum v a ws ≤ 1000000 * (a.length : Int)
  | [], ws, _ => by cases ws <;> simp [fsum]
  | n :: a, [], _ => by simp [fsum]; omega
  | n :: a, x :: ws, h => by
    have h1 := fsum_bd v a ws fun y hy => h y (by simp [hy])
    have h2 := h x (by simp)
    simp only [fsum, List.length_cons]
    split <;> omega
theorem bestF_big {m : Mo} {l : List (List Int)} {ws : List Int} (hw : ∀ x ∈ ws, -1000000 ≤ x ∧ x ≤ 1000000) (hl : l.length ≤ 1000) (hs : satM m (fun _ => true) ≠ []) : leastI < bestF m l ws := by
  obtain ⟨x, hx⟩ := List.exists_mem_of_ne_nil _ hs
  unfold satM at hx
  rw [List.mem_filter] at hx
  have h1 := maxL_mem ((exts m.opts.length []).map (valF m l ws)) (valF m l ws x) (List.mem_map.2 ⟨x, hx.1, rfl⟩)
  have h2 : valF m l ws x = fsum (vf x) l ws := by
    unfold valF; rw [if_pos]; simpa using hx.2
  have h3 := fsum_bd (vf x) l ws hw
  unfold bestF
  unfold leastI at *
  omega
theorem WgAt.setOther {w : World} {F : Fo} {wp : Nat} {wsv : Value} {ws : List Int} {kb cnt : Nat} {m : SmL → Option Int} (h : WgAt w F wp wsv ws kb cnt m) {p : Addr} {u : Value} (h1 : p.block ≠ wp) (h2 : p.block ≠ kb) (h3 : ¬ SF F p.block) (hw : Ints (w.setCell p u) (w.setCell p u).heap.size wsv ws) : WgAt (w.setCell p u) F wp wsv ws kb cnt m :=
  ⟨(Below.heap_setCell _ _ _ _ (fun e => h1 e.symm)).trans h.box, h.fo.same (fun k hk => Below.heap_setCell _ _ _ _ (fun e => h3 (e ▸ hk))), hw, h.map.same (Below.heap_setCell _ _ _ _ (fun e => h2 e.symm)), h.ok, h.nS⟩
theorem Nods.setBool {w : World} {B b N k : Nat} {v : Value} {ns : List Nat} {ls : List Bool} {u : Value} (h : Nods w B v ns) (hv : VarAt w b N ls) : Nods (w.setCell ⟨b, k, none⟩ u) B v ns := by
  obtain ⟨A, b0, off, cap, h1, h2, h3, h4⟩ := h
  refine ⟨A, b0, off, cap, h1, h2, h3, fun i j hi hj => ?_⟩
  rw [← h4 i j hi hj]
  have hne : b0 ≠ b := by
    intro e
    have h5 := h4 i j hi hj
    rw [e, cellOf hv] at h5
    simp only [List.getElem?_toArray, List.getElem?_map] at h5
    generalize (ls ++ List.replicate (N - ls.length) false)[off + (i * 1 + j)]? = q at h5
    cases q with
    | none => simp at h5
    | some x => simp at h5
  exact World.cell?_of_block (Below.heap_setCell _ _ _ _ hne)
theorem VarAt.below {w w' : World} {b N : Nat} {ls : List Bool} (h : VarAt w b N ls) (hb : Below w.heap.size w w') : VarAt w' b N ls := box_to h hb
end Go.Proofs.Ytehadoecnmfeoaa
/- Diagrams handed in, and where a variant comes to in one. Plain laws; the arguments opened: no condition. -/
namespace Go.Proofs.Ytehadoecnmfeoaa
open Go.Joins Go.ChangeShapes Go.WideShapes Go.ChangeAt Go.RowKit Go.Deep
set_option maxRecDepth 100000
set_option linter.unusedVariables false
set_option linter.unusedSimpArgs false
structure Kt where
  o : Int
  l : Int
  h : Int
def Kt.z : Kt := ⟨0, 0, 0⟩
def ktF (k : Kt) (j : Nat) : Value := match j with
  | 0 => .int .i64 k.o
  | 1 => .int .i64 k.l
  | _ => .int .i64 k.h
def Kts (w : World) (B : Nat) (v : Value) (ks : List Kt) : Prop := Sl w B 3 v ks.length (fun i j => ktF (ks.getD i Kt.z) j)
/-- Whether one may go on to a place. -/
def goB (ks : List Kt) (before : Nat) (o q : Int) : Bool := q == -1 || q == -2 || (decide (0 ≤ q) && decide (q < before) && decide (o < (ks.getD q.toNat Kt.z).o))
def okB (n : Nat) (ks : List Kt) (i : Nat) : Bool := decide (0 ≤ (ks.getD i Kt.z).o) && decide ((ks.getD i Kt.z).o < n) && goB ks i (ks.getD i Kt.z).o (ks.getD i Kt.z).l && goB ks i (ks.getD i Kt.z).o (ks.getD i Kt.z).h
/-- Where one goes on from a knot. -/
def nxt (ks : List Kt) (v : List Bool) (r : Int) : Int := if v.getD (ks.getD r.toNat Kt.z).o.toNat false then (ks.getD r.toNat Kt.z).h else (ks.getD r.toNat Kt.z).l
def flw (ks : List Kt) (v : List Bool) : Nat → Int → Int
  | 0, r => r
  | n + 1, r => if r < 0 then r else flw ks v n (nxt ks v r)
def allB (n : Nat) (ks : List Kt) : Bool := (List.range ks.length).all (okB n ks)
/-- What Follow returns. -/
def folE (m : Mo) (ks : List Kt) (r : Int) (v : List Bool) : Int := if m.err ≠ 0 then m.err else if 2000 < ks.length ∨ allB m.opts.length ks = false ∨ r < -2 ∨ (ks.length : Int) ≤ r ∨ v.length ≠ m.opts.length then 1 else 0
def folB (m : Mo) (ks : List Kt) (r : Int) (v : List Bool) : Bool := if folE m ks r v = 0 then flw ks v ks.length r == -2 else false
section
variable {H : Type} {enc : TypeId × Value → H} {W : World} {base b0 : Nat} {r : Reach} {spare : Nat → Bool} {held : Bool} {v : Value} {d : DataW H} {p : List MemPlace}
end
end Go.Proofs.Ytehadoecnmfeoaa
/- The value of a formula as the elder program has it: walk. -/
namespace Go.Proofs.Ytehadoecnmfeoaa
open Go.RowKit
set_option linter.unusedVariables false
set_option linter.unusedSimpArgs false
/-- What eval tells of the term at place p. -/
def EvR (N : Nat) (v : Nat → Bool) (f : List Int) (p c : Nat) (x : Bool) (q : Nat) : Prop :=
  p < q ∧ q ≤ f.length ∧ vld N c (f.drop q) = true ∧ evS v (f.drop p) = x :: evS v (f.drop q)
theorem EvR.one {N c p q : Nat} {v : Nat → Bool} {f : List Int} {x : Bool} (hd : f.drop p = -3 :: f.drop (p + 1)) (h : EvR N v f (p + 1) c x q) : EvR N v f p c (!x) q := by
  obtain ⟨h1, h2, h3, h4⟩ := h
  refine ⟨by omega, h2, h3, ?_⟩
  rw [hd, evS_cons, h4]
  rfl
theorem EvR.two {N c p q r : Nat} {v : Nat → Bool} {f : List Int} {x y z : Bool} {o : Int} (hd : f.drop p = o :: f.drop (p + 1)) (h : EvR N v f (p + 1) (c + 1) x q) (k : EvR N v f q c y r) (hs : ∀ S, stp v o (x :: y :: S) = z :: S) : EvR N v f p c z r := by
  obtain ⟨h1, h2, h3, h4⟩ := h
  obtain ⟨k1, k2, k3, k4⟩ := k
  refine ⟨by omega, k2, k3, ?_⟩
  rw [hd, evS_cons, h4, k4, hs]
def EvP (N : Nat) (v : Nat → Bool) (f : List Int) (p c : Nat) (w : World) (e : Ending) (W : World) : Prop := ∃ (x : Bool) (q : Nat), e = .returned (.tuple #[.bool x, .int .i64 (q : Nat)]) ∧ EvR N v f p c x q ∧ w = W
end Go.Proofs.Ytehadoecnmfeoaa
/- A formula's value as the elder program has it: walk. -/
namespace Go.Proofs.Ytehadoecnmfeoaa
open Go.RowKit
set_option linter.unusedVariables false
set_option linter.unusedSimpArgs false
end Go.Proofs.Ytehadoecnmfeoaa
/- Names and valid formulas, as the elder program has them: walks. -/
namespace Go.Proofs.Ytehadoecnmfeoaa
open Go.RowKit
set_option linter.unusedVariables false
set_option linter.unusedSimpArgs false
end Go.Proofs.Ytehadoecnmfeoaa
/- The end of a term, as the elder program has it: walk. -/
namespace Go.Proofs.Ytehadoecnmfeoaa
open Go.RowKit
set_option linter.unusedVariables false
set_option linter.unusedSimpArgs false
/-- How many numbers of l belong to its first c terms. -/
def endN (N : Nat) : Nat → List Int → Option Nat
  | 0, _ => some 0
  | _ + 1, [] => none
  | c + 1, o :: r => if -6 ≤ o ∧ o < N then (endN N (c + arO o) r).map (· + 1) else none
def endR (p : Nat) : Option Nat → Int
  | none => -1
  | some q => (p + q : Nat)
end Go.Proofs.Ytehadoecnmfeoaa
/- CheckModel as the elder program has it: walk. -/
namespace Go.Proofs.Ytehadoecnmfeoaa
open Go.RowKit
set_option linter.unusedVariables false
set_option linter.unusedSimpArgs false
end Go.Proofs.Ytehadoecnmfeoaa
/- CheckFormula: walks. -/
namespace Go.Proofs.Ytehadoecnmfeoaa
open Go.RowKit
set_option linter.unusedVariables false
set_option linter.unusedSimpArgs false
set_option maxRecDepth 100000 in
set_option maxHeartbeats 2000000 in
theorem CheckFormula_any (m : Mo) (f : List Int) (ov rv fv : Value) (w : World) (hs : SizedM m) (hl : f.length ≤ maxLen) (h : MoAt w w.heap.size ov rv m) (hf : Ints w w.heap.size fv f) :
    Calls Try.prog 79 #[.agg #[ov, rv], fv] w fun e w' => e = .returned (.int .i64 (m.errF [f])) ∧ Below w.heap.size w w' := by
  obtain ⟨A, cap, hov⟩ := Sl.form h.o
  obtain ⟨Ar, capr, hrv⟩ := h.r.form
  obtain ⟨Al, capl, hlv⟩ := Sl.form hf
  have H := hide h
  have HF := hide hf
  have HS := hide hs
  subst hov hrv hlv
  clear h hf hs
  go_enter Try.func79, Try.ntmps79
  go_upto_region 1 with (fail)
  generalize hw0 : World.alloc _ _ = w0
  obtain ⟨hb0, hB0, hs0⟩ := alloc1 hw0
  clear hw0
  have HB0 := hide hB0
  have c0 := cellOf hb0 0
  have c1 := cellOf hb0 1
  have hB2 : Below w.heap.size w (w0.alloc (.cells #[.slice Al f.length capl] 51 (0, 0))) := Below.allocT hB0 (Nat.le_refl _) _
  have hck := check_any m [f] (.slice A m.opts.length cap) (.slice Ar m.rules.length capr) (.slice (some ⟨w0.heap.size, 0, none⟩) 1 1) _ HS.out (sized_one hl) (H.out.up hB2) (forms_one (heap_new _ _ _ rfl) (by simp) (HF.out.up hB2))
  have HCK := hide hck
  have HB2 := hide hB2
  clear hb0 hB0 hs0 hck hB2
  go_wp2_with (go_at_call 88; refine HCK.out.mono ?_; rintro e w1 ⟨rfl, hB1⟩)
  go_ret
  exact ⟨rfl, Below.to HB2.out hB1 (Nat.le_refl _)⟩
end Go.Proofs.Ytehadoecnmfeoaa
/- Holds and Buildable as the elder program has them: walks. -/
namespace Go.Proofs.Ytehadoecnmfeoaa
open Go.RowKit
set_option linter.unusedVariables false
set_option linter.unusedSimpArgs false
/-- What Holds returns. -/
def holE (m : Mo) (f : List Int) (vs : List Bool) : Int := if m.errF [f] ≠ 0 then m.errF [f] else if vs.length ≠ m.opts.length then 1 else 0
def holB (m : Mo) (f : List Int) (vs : List Bool) : Bool := if holE m f vs = 0 then evF1 (vf vs) f else false
/-- The first rule that does not hold. -/
def fstR (vs : List Bool) (rules : List (List Int)) : Int := idxI (fun f => !evF1 (vf vs) f) rules
end Go.Proofs.Ytehadoecnmfeoaa
/- Buildable as the elder program has it: walk. -/
namespace Go.Proofs.Ytehadoecnmfeoaa
open Go.RowKit
set_option linter.unusedVariables false
set_option linter.unusedSimpArgs false
/-- What Buildable returns. -/
def buiE (m : Mo) (vs : List Bool) : Int := if m.err ≠ 0 then m.err else if vs.length ≠ m.opts.length then 1 else 0
def buiR (m : Mo) (vs : List Bool) : Int := if buiE m vs = 0 then fstR vs m.rules else 0
def buiB (m : Mo) (vs : List Bool) : Bool := if buiE m vs = 0 then decide (fstR vs m.rules < 0) else false
end Go.Proofs.Ytehadoecnmfeoaa
/- A stack of Bools. -/
namespace Go.Proofs.Ytehadoecnmfeoaa
open Go.RowKit
set_option linter.unusedVariables false
set_option linter.unusedSimpArgs false
/-- The slice is a stack of its own above block B. -/
def BStk (B : Nat) (w : World) (sv : Value) (S : List Bool) : Prop := w.ownsRow B 4 1 sv S.length (S.map Value.bool)
theorem BStk.below {B : Nat} {w w' : World} {sv : Value} {S : List Bool} (h : BStk B w sv S) (hb : Below w.heap.size w w') : BStk B w' sv S := owns_below h hb
theorem BStk.shape {B : Nat} {w : World} {sv : Value} {S : List Bool} (h : BStk B w sv S) : ∃ A cap, sv = .slice A S.length cap ∧ S.length ≤ cap ∧ cap ≤ maxLen := by
  rcases h.2 with ⟨h1, h2⟩ | ⟨g, cap, cur, h1, _, _, h2, h3, _⟩
  · exact ⟨none, 0, by rw [h1, h2], by omega, by unfold maxLen; omega⟩
  · exact ⟨_, cap, h1, h2, h3⟩
theorem BStk.cells {B : Nat} {w : World} {A : Option Addr} {n cap : Nat} {S : List Bool} (h : BStk B w (.slice A n cap) S) (hn : 0 < S.length) : ∃ g, A = some ⟨g, 0, none⟩ ∧ g < w.heap.size ∧ ∀ i, i < S.length → w.cell? ⟨g, i, none⟩ = some (.bool (S.getD i false)) := by
  obtain ⟨g, cap', hv, _, hl⟩ := World.ownsRow.form h hn
  injection hv with h1 h2 h3
  subst h1
  refine ⟨g, rfl, hl, fun i hi => ?_⟩
  have := World.ownsRow.cells (g := g) h rfl i (.bool (S.getD i false)) (by simp [hi])
  have he : (⟨g, 0, none⟩ : Addr).add i = ⟨g, i, none⟩ := by
    unfold Addr.add
    split
    · rename_i h0; rw [h0]
    · rw [Nat.zero_add]
  rwa [he] at this
theorem BStk.cut {B : Nat} {w : World} {A : Option Addr} {n cap : Nat} {S : List Bool} (h : BStk B w (.slice A n cap) S) {r : Nat} (hr : r ≤ S.length) : w.ownsRow B 4 1 (.slice A r cap) r ((S.take r).map Value.bool) := by
  obtain ⟨h1, ⟨h2, h3⟩ | ⟨g, cap', cur, h2, h3, h4, h5, h6, h7, h8⟩⟩ := h
  · injection h2 with e1 e2 e3
    subst e1 e3
    obtain rfl : r = 0 := by omega
    exact ⟨by simp, .inl ⟨rfl, rfl⟩⟩
  · injection h2 with e1 e2 e3
    subst e1 e3
    refine ⟨by simp; omega, .inr ⟨g, cap, cur, rfl, h3, h4, by omega, h6, h7, ?_⟩⟩
    rw [List.map_take, ← h8, List.take_take, Nat.mul_one, Nat.mul_one, Nat.min_eq_left hr]
end Go.Proofs.Ytehadoecnmfeoaa
/- Whether a formula holds: walk. -/
namespace Go.Proofs.Ytehadoecnmfeoaa
open Go.RowKit
set_option linter.unusedVariables false
set_option linter.unusedSimpArgs false
def BopP (v : Nat → Bool) (o : Int) (S : List Bool) (w : World) (x : Value) (wx : World) : Prop := ∃ y : Bool, x = .bool y ∧ Below w.heap.size w wx ∧ stp v o S.reverse = y :: S.reverse.drop (arO o)
end Go.Proofs.Ytehadoecnmfeoaa
/- Holds: walk. -/
namespace Go.Proofs.Ytehadoecnmfeoaa
open Go.RowKit
set_option linter.unusedVariables false
set_option linter.unusedSimpArgs false
end Go.Proofs.Ytehadoecnmfeoaa
/- Buildable: walk. -/
namespace Go.Proofs.Ytehadoecnmfeoaa
open Go.RowKit
set_option linter.unusedVariables false
set_option linter.unusedSimpArgs false
end Go.Proofs.Ytehadoecnmfeoaa
/- The variants of a model in order, by number. Plain laws. -/
namespace Go.Proofs.Ytehadoecnmfeoaa
set_option linter.unusedVariables false
/-- The variant with a number. -/
def bitsN : Nat → Nat → List Bool
  | 0, _ => []
  | k + 1, n => decide (n / 2 ^ k % 2 = 1) :: bitsN k n
/-- The buildable ones of the first n variants. -/
def varsN (m : Mo) (n : Nat) : List (List Bool) := ((List.range n).map (bitsN m.opts.length)).filter fun x => allF (vf x) m.rules
/-- The buildable variants. -/
def allM (m : Mo) : List (List Bool) := (exts m.opts.length []).filter fun x => allF (vf x) m.rules
theorem satM_all (m : Mo) (p : (Nat → Bool) → Bool) : satM m p = (allM m).filter fun x => p (vf x) := by
  unfold satM allM
  rw [List.filter_filter]
  exact List.filter_congr fun x _ => by rw [Bool.and_comm]
theorem satM_true (m : Mo) : satM m (fun _ => true) = allM m := by
  unfold satM allM
  exact List.filter_congr fun x _ => by simp
/-- Those of some variants in which a formula holds. -/
def whereF (l : List (List Bool)) (f : List Int) : List (List Bool) := l.filter fun x => evF1 (vf x) f
end Go.Proofs.Ytehadoecnmfeoaa
/- Lists of rows in memory, and a list of rows that is being made. -/
namespace Go.Proofs.Ytehadoecnmfeoaa
open Go.RowKit
set_option linter.unusedVariables false
set_option linter.unusedSimpArgs false
section
variable {α : Type} (enc : α → Value) (z : α)
/-- The slice v holds the list l, below block B. -/
def GRow (w : World) (B : Nat) (v : Value) (l : List α) : Prop := Sl w B 1 v l.length (fun j _ => enc (l.getD j z))
/-- The slice v holds rows, below block B. -/
def GRows (w : World) (B : Nat) (v : Value) (L : List (List α)) : Prop := ∃ fv : Nat → Value, Sl w B 1 v L.length (fun i _ => fv i) ∧ ∀ i, i < L.length → GRow enc z w B (fv i) (L.getD i [])
/-- A list of rows that is being made: its own block lies from block B on, no row lies in it, and none in X. -/
structure GS (e : Nat) (X : Nat → Prop) (B : Nat) (w : World) (sv : Value) (L : List (List α)) (vs : List Value) : Prop where
  len : vs.length = L.length
  own : w.ownsRow B e 1 sv L.length vs
  nx : ∀ b, sv.ownBlock = some b → ¬ X b
  row : ∀ i, i < L.length → GRow enc z w w.heap.size (vs.getD i undef) (L.getD i [])
  ap : ∀ i, i < L.length → 0 < (L.getD i []).length → ∀ b, (vs.getD i undef).ownBlock = some b → ¬ X b ∧ sv.ownBlock ≠ some b
def GStk (e : Nat) (X : Nat → Prop) (B : Nat) (w : World) (sv : Value) (L : List (List α)) : Prop := ∃ vs, GS enc z e X B w sv L vs
variable {enc z}
theorem GRow.below {w w' : World} {B : Nat} {v : Value} {l : List α} (h : GRow enc z w B v l) (hb : Below B w w') : GRow enc z w' B v l := Sl.below h hb
theorem GRow.more {w : World} {B B' : Nat} {v : Value} {l : List α} (h : GRow enc z w B v l) (hB : B ≤ B') : GRow enc z w B' v l := Sl.more h hB
theorem GRow.up {w w' : World} {v : Value} {l : List α} (h : GRow enc z w w.heap.size v l) (hb : Below w.heap.size w w') : GRow enc z w' w'.heap.size v l := Sl.up h hb
theorem GRow.form {w : World} {B : Nat} {v : Value} {l : List α} (h : GRow enc z w B v l) : ∃ A cap, v = .slice A l.length cap := Sl.form h
/-- A row that is not empty lies in a block that there is. -/
theorem GRow.block {w : World} {B : Nat} {v : Value} {l : List α} (h : GRow enc z w B v l) (hl : 0 < l.length) : ∃ b off cap, v = .slice (some ⟨b, off, none⟩) l.length cap ∧ b < B ∧ v.ownBlock = some b := by
  obtain ⟨A, b, off, cap, rfl, _, hA, _⟩ := h
  rcases hA with ⟨rfl, hb⟩ | h0
  · exact ⟨b, off, cap, rfl, hb, rfl⟩
  · omega
/-- A row stays where its block stays. -/
theorem GRow.stay {w w' : World} {B : Nat} {v : Value} {l : List α} (h : GRow enc z w B v l) (hs : ∀ b, 0 < l.length → v.ownBlock = some b → b < B → w'.heap[b]? = w.heap[b]?) : GRow enc z w' B v l := by
  obtain ⟨A, b, off, cap, rfl, hn, hA, hc⟩ := h
  refine ⟨A, b, off, cap, rfl, hn, hA, fun i j hi hj => ?_⟩
  rcases hA with ⟨rfl, hb⟩ | h0
  · have := hs b (by omega) rfl hb
    exact (World.cell?_of_block (a := ⟨b, off + (i * 1 + j), none⟩) this).trans (hc i j hi hj)
  · omega
theorem GRows.below {w w' : World} {B : Nat} {v : Value} {L : List (List α)} (h : GRows enc z w B v L) (hb : Below B w w') : GRows enc z w' B v L := by
  obtain ⟨fv, h1, h2⟩ := h
  exact ⟨fv, h1.below hb, fun i hi => (h2 i hi).below hb⟩
theorem GRows.more {w : World} {B B' : Nat} {v : Value} {L : List (List α)} (h : GRows enc z w B v L) (hB : B ≤ B') : GRows enc z w B' v L := by
  obtain ⟨fv, h1, h2⟩ := h
  exact ⟨fv, h1.more hB, fun i hi => (h2 i hi).more hB⟩
theorem GRows.up {w w' : World} {v : Value} {L : List (List α)} (h : GRows enc z w w.heap.size v L) (hb : Below w.heap.size w w') : GRows enc z w' w'.heap.size v L := (h.below hb).more hb.size
theorem GRows.form {w : World} {B : Nat} {v : Value} {L : List (List α)} (h : GRows enc z w B v L) : ∃ A cap, v = .slice A L.length cap := by
  obtain ⟨fv, h1, _⟩ := h
  exact Sl.form h1
theorem GRows.take {w : World} {B : Nat} {A : Option Addr} {n cap k : Nat} {L : List (List α)} (h : GRows enc z w B (.slice A n cap) L) (hk : k ≤ L.length) : GRows enc z w B (.slice A k cap) (L.take k) := by
  obtain ⟨fv, ⟨A1, b, off, cap1, hv, hn, hA, hc⟩, h2⟩ := h
  injection hv with e1 e2 e3
  subst e1 e3
  have hl : (L.take k).length = k := by simp; omega
  refine ⟨fv, ⟨A, b, off, cap, by rw [hl], by omega, by rw [hl]; rcases hA with h | h; exact .inl h; exact .inr (by omega), fun i j hi hj => hc i j (by omega) hj⟩, fun i hi => ?_⟩
  have h3 := h2 i (by omega)
  rw [show (L.take k).getD i [] = L.getD i [] by rw [List.getD_eq_getElem?_getD, List.getElem?_take_of_lt (by omega), ← List.getD_eq_getElem?_getD]]
  exact h3
theorem GRows.nil (w : World) (B : Nat) : GRows enc z w B (.slice none 0 0) [] := ⟨fun _ => undef, Sl.nil _ _ _ _, fun i hi => by simp at hi⟩
theorem GStk.nil {e : Nat} {X : Nat → Prop} (w : World) (B : Nat) : GStk enc z e X B w (.slice none 0 0) [] :=
  ⟨[], rfl, World.ownsRow_nil w B e 1, fun b hb => (by cases hb), fun i hi => by simp at hi, fun i hi => by simp at hi⟩
theorem GStk.form {e : Nat} {X : Nat → Prop} {B : Nat} {w : World} {sv : Value} {L : List (List α)} (h : GStk enc z e X B w sv L) : ∃ A cap, sv = .slice A L.length cap ∧ L.length ≤ cap ∧ cap ≤ maxLen := by
  obtain ⟨vs, h⟩ := h
  rcases h.own.2 with ⟨h1, h2⟩ | ⟨g, cap, cur, h1, _, _, h2, h3, _⟩
  · exact ⟨none, 0, by rw [h1, h2], by omega, by unfold maxLen; omega⟩
  · exact ⟨_, cap, h1, h2, h3⟩
theorem GStk.lt {e : Nat} {X : Nat → Prop} {B : Nat} {w : World} {sv : Value} {L : List (List α)} (h : GStk enc z e X B w sv L) : ∀ b, sv.ownBlock = some b → B ≤ b ∧ b < w.heap.size := by
  obtain ⟨vs, h⟩ := h
  exact h.own.lt
theorem ownsRow_same {w w' : World} {base e size n : Nat} {v : Value} {xs : List Value} (h : w.ownsRow base e size v n xs) (hs : ∀ b, v.ownBlock = some b → w'.heap[b]? = w.heap[b]?) : w'.ownsRow base e size v n xs := by
  obtain ⟨h1, h2 | ⟨g, cap, cur, rfl, h4, h5, h6⟩⟩ := h
  · exact ⟨h1, .inl h2⟩
  · exact ⟨h1, .inr ⟨g, cap, cur, rfl, h4, (hs g rfl).trans h5, h6⟩⟩
theorem GS.step {e : Nat} {S X X' : Nat → Prop} {B : Nat} {w w' : World} {sv : Value} {L : List (List α)} {vs : List Value} (h : GS enc z e X B w sv L vs) (hk : Keeps S w w') (hS : ∀ b, b < w.heap.size → S b → X b) (hX : ∀ b, b < w.heap.size → X' b → X b) : GS enc z e X' B w' sv L vs := by
  refine ⟨h.len, ownsRow_same h.own fun b hb => hk.block b (h.own.lt b hb).2 fun hs => h.nx b hb (hS b (h.own.lt b hb).2 hs), fun b hb hx => h.nx b hb (hX b (h.own.lt b hb).2 hx), fun i hi => ?_, fun i hi hl b hb => ?_⟩
  · exact ((h.row i hi).stay fun b hl hb hlt => hk.block b hlt fun hs => (h.ap i hi hl b hb).1 (hS b hlt hs)).more hk.size
  · obtain ⟨b', _, _, _, hlt, hob⟩ := (h.row i hi).block hl
    rw [hob] at hb
    injection hb with hb
    subst hb
    have h3 := h.ap i hi hl b' hob
    exact ⟨fun hx => h3.1 (hX b' hlt hx), h3.2⟩
theorem GStk.step {e : Nat} {S X X' : Nat → Prop} {B : Nat} {w w' : World} {sv : Value} {L : List (List α)} (h : GStk enc z e X B w sv L) (hk : Keeps S w w') (hS : ∀ b, b < w.heap.size → S b → X b) (hX : ∀ b, b < w.heap.size → X' b → X b) : GStk enc z e X' B w' sv L := by
  obtain ⟨vs, h⟩ := h
  exact ⟨vs, h.step hk hS hX⟩
theorem GS.below {e : Nat} {X : Nat → Prop} {B : Nat} {w w' : World} {sv : Value} {L : List (List α)} {vs : List Value} (h : GS enc z e X B w sv L vs) (hb : Below w.heap.size w w') : GS enc z e X B w' sv L vs :=
  h.step (S := fun _ => False) (Keeps.of_below hb) (fun _ _ h => h.elim) (fun _ _ h => h)
theorem GStk.below {e : Nat} {X : Nat → Prop} {B : Nat} {w w' : World} {sv : Value} {L : List (List α)} (h : GStk enc z e X B w sv L) (hb : Below w.heap.size w w') : GStk enc z e X B w' sv L :=
  h.step (S := fun _ => False) (Keeps.of_below hb) (fun _ _ h => h.elim) (fun _ _ h => h)
theorem GStk.base {e : Nat} {X : Nat → Prop} {B B' : Nat} {w : World} {sv : Value} {L : List (List α)} (h : GStk enc z e X B w sv L) (hB : B' ≤ B) : GStk enc z e X B' w sv L := by
  obtain ⟨vs, h⟩ := h
  exact ⟨vs, h.len, owns_base h.own hB, h.nx, h.row, h.ap⟩
theorem GStk.rows {e : Nat} {X : Nat → Prop} {B : Nat} {w : World} {sv : Value} {L : List (List α)} (h : GStk enc z e X B w sv L) : GRows enc z w w.heap.size sv L := by
  obtain ⟨vs, h⟩ := h
  refine ⟨fun i => vs.getD i undef, Sl.of_owns h.own fun i j hi hj => ?_, h.row⟩
  obtain rfl : j = 0 := by omega
  have := h.len
  have hi2 : i < vs.length := by omega
  rw [Nat.mul_one, Nat.add_zero]
  simp [hi2]
theorem getD_push {β : Type} {l : List β} {x d : β} {i : Nat} : (l ++ [x]).getD i d = if i < l.length then l.getD i d else if i = l.length then x else d := by
  split
  · rename_i h
    rw [List.getD_eq_getElem?_getD, List.getElem?_append_left h, ← List.getD_eq_getElem?_getD]
  · rename_i h
    split
    · rename_i h2
      subst h2
      simp
    · rw [List.getD_eq_getElem?_getD, List.getElem?_eq_none (by simp; omega)]
      rfl
/-- One more row. -/
theorem GS.push {e : Nat} {X : Nat → Prop} {B : Nat} {w w1 : World} {A : Option Addr} {n cap : Nat} {L : List (List α)} {vs : List Value} {rv v1 : Value} {l : List α} {o : Obj} (h : GS enc z e X B w (.slice A n cap) L vs) (hr : GRow enc z w w.heap.size rv l)
    (hrx : 0 < l.length → ∀ b, rv.ownBlock = some b → ¬ X b ∧ (Value.slice A n cap).ownBlock ≠ some b) (hXw : ∀ b, X b → b < w.heap.size)
    (hown : w1.ownsRow B e 1 v1 (L.length + 1) (vs ++ [rv])) (hg : (w.alloc o).grownBy w1 (Value.slice A n cap).ownBlock)
    (hat : v1.ownBlock = (Value.slice A n cap).ownBlock ∨ v1.ownBlock = some (w.alloc o).heap.size) :
    GStk enc z e X B w1 v1 (L ++ [l]) ∧ Keeps (fun i => (Value.slice A n cap).ownBlock = some i) w w1 := by
  have hk : Keeps (fun i => (Value.slice A n cap).ownBlock = some i) w w1 := Keeps.trans ((Keeps.refl _ w).alloc o) (Keeps.of_grown hg (fun k hk => hk)) (fun _ _ h => h)
  have hvl := h.len
  have hsz := hk.size
  have hall : ∀ i, i < (L ++ [l]).length → GRow enc z w w.heap.size ((vs ++ [rv]).getD i undef) ((L ++ [l]).getD i []) ∧ (0 < ((L ++ [l]).getD i []).length → ∀ b, ((vs ++ [rv]).getD i undef).ownBlock = some b → ¬ X b ∧ (Value.slice A n cap).ownBlock ≠ some b) := by
    intro i hi
    rw [getD_push, getD_push, hvl]
    by_cases h1 : i < L.length
    · rw [if_pos h1, if_pos h1]
      exact ⟨h.row i h1, h.ap i h1⟩
    · have : i = L.length := by simp at hi; omega
      rw [if_neg h1, if_pos this, if_neg h1, if_pos this]
      exact ⟨hr, hrx⟩
  refine ⟨⟨vs ++ [rv], by simp [hvl], by rw [List.length_append]; exact hown, fun b hb hx => ?_, fun i hi => ?_, fun i hi hl b hb => ?_⟩, hk⟩
  · rcases hat with h1 | h1
    · exact h.nx b (h1.symm.trans hb) hx
    · rw [h1] at hb
      injection hb with hb
      have := hXw b hx
      simp at hb
      omega
  · obtain ⟨q1, q2⟩ := hall i hi
    exact (q1.stay fun b hl hb hlt => hk.block b hlt fun hs => (q2 hl b hb).2 hs).more hsz
  · obtain ⟨q1, q2⟩ := hall i hi
    obtain ⟨b', _, _, _, hlt, hob⟩ := q1.block hl
    have hbb : b = b' := by rw [hob] at hb; injection hb with hb; exact hb.symm
    subst hbb
    refine ⟨(q2 hl b hob).1, fun hv => ?_⟩
    rcases hat with h1 | h1
    · exact (q2 hl b hob).2 (h1.symm.trans hv)
    · rw [h1] at hv
      injection hv with hv
      simp at hv
      omega
end
/-- Variants. -/
abbrev Vars (w : World) (B : Nat) (v : Value) (L : List (List Bool)) : Prop := GRows Value.bool false w B v L
abbrev VStk (X : Nat → Prop) (B : Nat) (w : World) (sv : Value) (L : List (List Bool)) : Prop := GStk Value.bool false 46 X B w sv L
theorem infoForm : (Try.prog.info? 51).map (fun i => (i.zero, i.size, i.bytes)) = some (some (.slice none 0 0), 1, 24) := by kernel_rfl
end Go.Proofs.Ytehadoecnmfeoaa
/- The variant with a number: walk. -/
namespace Go.Proofs.Ytehadoecnmfeoaa
open Go.RowKit
set_option linter.unusedVariables false
set_option linter.unusedSimpArgs false
end Go.Proofs.Ytehadoecnmfeoaa
/- All buildable variants, and those in which a formula holds, as the elder program has them: walks. -/
namespace Go.Proofs.Ytehadoecnmfeoaa
open Go.RowKit
set_option linter.unusedVariables false
set_option linter.unusedSimpArgs false
end Go.Proofs.Ytehadoecnmfeoaa
/- Those of some variants in which a formula holds, as the elder program has them: walk. -/
namespace Go.Proofs.Ytehadoecnmfeoaa
open Go.RowKit
set_option linter.unusedVariables false
set_option linter.unusedSimpArgs false
end Go.Proofs.Ytehadoecnmfeoaa
/- Count and List as the elder program has them: walks. -/
namespace Go.Proofs.Ytehadoecnmfeoaa
open Go.RowKit
set_option linter.unusedVariables false
set_option linter.unusedSimpArgs false
/-- What Count returns. -/
def cntE (m : Mo) (f : List Int) : Nat := if m.errF [f] ≠ 0 then 0 else (whereF (allM m) f).length
end Go.Proofs.Ytehadoecnmfeoaa
/- List as the elder program has it: walk. -/
namespace Go.Proofs.Ytehadoecnmfeoaa
open Go.RowKit
set_option linter.unusedVariables false
set_option linter.unusedSimpArgs false
/-- What List returns. -/
def lisE (m : Mo) (f : List Int) (most : Int) : Int := if m.errF [f] ≠ 0 then m.errF [f] else if most < 1 ∨ 64 < most then 1 else 0
def lisL (m : Mo) (f : List Int) (most : Int) : List (List Bool) := if lisE m f most = 0 then (whereF (allM m) f).take most.toNat else []
/-- A list of variants and an error. -/
def ListP (L : List (List Bool)) (x : Int) (w : World) (e : Ending) (w' : World) : Prop := ∃ v, e = .returned (.tuple #[v, .int .i64 x]) ∧ Vars w' w'.heap.size v L ∧ Below w.heap.size w w'
theorem ListP.none (x : Int) {w w' : World} (h : Below w.heap.size w w') : ListP [] x w (.returned (.tuple #[.slice none 0 0, .int .i64 x])) w' := ⟨_, rfl, GRows.nil _ _, h⟩
end Go.Proofs.Ytehadoecnmfeoaa

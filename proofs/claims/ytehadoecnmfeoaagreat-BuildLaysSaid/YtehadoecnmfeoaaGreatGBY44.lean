/- Part 44 of this claim's texts: walks and plain laws. -/
import Derived.Test.YtehadoecnmfeoaaGreatRows
import Derived.Test.YtehadoecnmfeoaaGreatGBY43
import Derived.Test.YtehadoecnmfeoaaGreatGBY2
import Derived.Test.YtehadoecnmfeoaaGreatGBY19
import Derived.Deep.RegionHeld3
import Derived.Deep.DrawnRows
import Derived.WalkSpells
import Derived.Lib.SliceRun
import Derived.Test.YtehadoecnmfeoaaGreatGBY16
/- A loom copied: walk. -/
namespace Go.Proofs.YtehadoecnmfeoaaGreat
open Go.RowKit
set_option linter.unusedVariables false
set_option linter.unusedSimpArgs false
def spF (l : List Sp) (i j : Nat) : Value := spC (l.getD i Sp.o) j
def ruF (l : List Ru) (i j : Nat) : Value := ruC (l.getD i Ru.o) j
def plF (l : List Pl) (i j : Nat) : Value := plC (l.getD i Pl.o) j
def wiF (l : List Wi) (cv : Nat → Value) (i j : Nat) : Value := wiC (l.getD i Wi.o) (cv i) j
def nmF (l : List ByteArray) (i j : Nat) : Value := .string (l.getD i ByteArray.empty)
/-- Formulas in rows of their own. -/
structure FoO (wr : World) (B : Nat) (v : Value) (L : List (List Int)) (vs : List Value) : Prop where
  len : vs.length = L.length
  own : wr.ownsRow B 46 1 v L.length vs
  row : ∀ i, i < L.length → wr.ownsRow B 3 1 (vs.getD i undef) (L.getD i []).length ((L.getD i []).map (Value.int .i64))
theorem FoO.below {wr w' : World} {B : Nat} {v : Value} {L : List (List Int)} {vs : List Value} (h : FoO wr B v L vs) (hb : Below wr.heap.size wr w') : FoO w' B v L vs := ⟨h.len, owns_below h.own hb, fun i hi => owns_below (h.row i hi) hb⟩
theorem FoO.grown {wr w' : World} {B g t : Nat} {v : Value} {L : List (List Int)} {vs : List Value} {C : Array Value} (h : FoO wr B v L vs) (hg : wr.grownBy w' (some g)) (ht : wr.heap[g]? = some (.cells C t (0, 0))) (h1 : 46 ≠ t) (h2 : 3 ≠ t) : FoO w' B v L vs := ⟨h.len, owns_grown h.own hg ht h1, fun i hi => owns_grown (h.row i hi) hg ht h2⟩
theorem FoO.forms {wr : World} {B : Nat} {v : Value} {L : List (List Int)} {vs : List Value} (h : FoO wr B v L vs) : Forms wr wr.heap.size v L := by
  refine ⟨fun i => vs.getD i undef, Sl.of_owns h.own fun i j hi hj => ?_, fun i hi => ints_own6 (h.row i hi)⟩
  obtain rfl : j = 0 := by omega
  have := h.len
  have hi2 : i < vs.length := by omega
  rw [Nat.mul_one, Nat.add_zero]
  simp [hi2]
/-- Numbers apart from some blocks. -/
def IntsX (w : World) (X : Nat → Prop) (v : Value) (f : List Int) : Prop :=
  ∃ (A : Option Addr) (b off cap : Nat), v = .slice A f.length cap ∧ f.length ≤ cap ∧ (A = some ⟨b, off, none⟩ ∧ b < w.heap.size ∧ ¬ X b ∨ f.length = 0) ∧ ∀ i, i < f.length → w.cell? ⟨b, off + i, none⟩ = some (.int .i64 (f.getD i 0))
theorem IntsX.ints {w : World} {X : Nat → Prop} {v : Value} {f : List Int} (h : IntsX w X v f) : Ints w w.heap.size v f := by
  obtain ⟨A, b, off, cap, h1, h2, h3, h4⟩ := h
  refine ⟨A, b, off, cap, h1, h2, h3.imp (fun ⟨a, c, _⟩ => ⟨a, c⟩) id, fun i j hi hj => ?_⟩
  obtain rfl : j = 0 := by omega
  rw [Nat.mul_one, Nat.add_zero]
  exact h4 i hi
theorem IntsX.of {w : World} {B : Nat} {X : Nat → Prop} {v : Value} {f : List Int} (h : Ints w B v f) (hB : B ≤ w.heap.size) (hg : ∀ b, X b → B ≤ b) : IntsX w X v f := by
  obtain ⟨A, b, off, cap, h1, h2, h3, h4⟩ := h
  refine ⟨A, b, off, cap, h1, h2, h3.imp (fun ⟨a, c⟩ => ⟨a, by omega, fun e => by have := hg b e; omega⟩) id, fun i hi => ?_⟩
  have := h4 i 0 hi (by omega)
  rwa [Nat.mul_one, Nat.add_zero] at this
theorem IntsX.keeps {w w' : World} {X : Nat → Prop} {row : Option Nat} {v : Value} {f : List Int} (h : IntsX w X v f) (hg : w.grownBy w' row) (hX : ∀ k, row = some k → X k) : IntsX w' X v f := by
  obtain ⟨A, b, off, cap, h1, h2, h3, h4⟩ := h
  refine ⟨A, b, off, cap, h1, h2, h3.imp (fun ⟨a, c, d⟩ => ⟨a, Nat.lt_of_lt_of_le c hg.size, d⟩) id, fun i hi => ?_⟩
  rcases h3 with ⟨_, hb, hne⟩ | h0
  · rw [World.cell?_of_block (a := ⟨b, off + i, none⟩) (hg.block b hb (fun e => hne (hX b e.symm)))]
    exact h4 i hi
  · omega
theorem IntsX.own {w : World} {base rb e sz n : Nat} {xs : List Value} {gv v : Value} {f : List Int} (h : w.ownsRow base 3 1 v f.length (f.map (Value.int .i64))) (hg : w.ownsRow base e sz gv n xs) (hne : 3 ≠ e) (hrb : rb < base) : IntsX w (fun b => b = rb ∨ gv.ownBlock = some b) v f := by
  have h0 := ints_own6 h
  have hlt := h.lt
  obtain ⟨A, b, off, cap, h1, h2, h3, h4⟩ := h0
  refine ⟨A, b, off, cap, h1, h2, h3.imp (fun ⟨a, c⟩ => ⟨a, c, fun q => ?_⟩) id, fun i hi => by have := h4 i 0 hi (by omega); rwa [Nat.mul_one, Nat.add_zero] at this⟩
  have hbb := (hlt b (by rw [h1, a]; rfl)).1
  rcases q with q | q
  · omega
  obtain ⟨_, ⟨h5, _⟩ | ⟨g', cp, cur, h5, _, h6, _⟩⟩ := hg
  · rw [h5] at q; cases q
  · rw [h5] at q
    injection q with q
    simp only at q
    subst q
    exact ownsNot h h6 hne (by rw [h1, a]; rfl)
/-- The copy while the wires' formulas are copied. -/
structure CpS (w0 wr : World) (rb p : Nat) (C0 C1 C2 C3 C4 C5 : Option Addr) (r0 r1 r2 r3 r4 r5 : Nat) (l : Lo) (cv : Nat → Value) (vs : List Value) : Prop where
  below : Below w0.heap.size w0 wr
  pw : w0.heap.size ≤ p
  box : wr.heap[p]? = some (.cells #[.slice C0 l.m.opts.length r0, .slice C1 l.m.rules.length r1, .slice C2 l.ss.length r2, .slice C3 l.us.length r3, .slice C4 l.ps.length r4, .slice C5 l.ws.length r5] 31 (0, 0))
  n : wr.ownsRow w0.heap.size 9 1 (.slice C0 l.m.opts.length r0) l.m.opts.length (flat l.m.opts.length 1 (nmF l.m.opts))
  f : FoO wr w0.heap.size (.slice C1 l.m.rules.length r1) l.m.rules vs
  s : wr.ownsRow w0.heap.size 155 3 (.slice C2 l.ss.length r2) l.ss.length (flat l.ss.length 3 (spF l.ss))
  u : wr.ownsRow w0.heap.size 157 4 (.slice C3 l.us.length r3) l.us.length (flat l.us.length 4 (ruF l.us))
  p : wr.ownsRow w0.heap.size 159 3 (.slice C4 l.ps.length r4) l.ps.length (flat l.ps.length 3 (plF l.ps))
  w : wr.ownsRow w0.heap.size 76 7 (.slice C5 l.ws.length r5) l.ws.length (flat l.ws.length 7 (wiF l.ws cv))
  x : ∀ i, i < l.ws.length → IntsX wr (fun b => b = rb ∨ (Value.slice C5 l.ws.length r5).ownBlock = some b) (cv i) (l.ws.getD i Wi.o).form
  rb : rb < w0.heap.size
theorem CpS.loom {w0 wr : World} {rb p : Nat} {C0 C1 C2 C3 C4 C5 : Option Addr} {r0 r1 r2 r3 r4 r5 : Nat} {l : Lo} {cv : Nat → Value} {vs : List Value} (h : CpS w0 wr rb p C0 C1 C2 C3 C4 C5 r0 r1 r2 r3 r4 r5 l cv vs) : LoA wr wr.heap.size C0 C1 C2 C3 C4 C5 r0 r1 r2 r3 r4 r5 l :=
  ⟨⟨Sl.of_owns h.n fun i j hi hj => (flat_get hi hj).trans rfl, h.f.forms⟩, Sl.of_owns h.s fun i j hi hj => flat_get hi hj, Sl.of_owns h.u fun i j hi hj => flat_get hi hj, Sl.of_owns h.p fun i j hi hj => flat_get hi hj, cv, Sl.of_owns h.w fun i j hi hj => flat_get hi hj, fun i hi => (h.x i hi).ints⟩
theorem CpS.to {w0 wr w' : World} {rb p : Nat} {C0 C1 C2 C3 C4 C5 : Option Addr} {r0 r1 r2 r3 r4 r5 : Nat} {l : Lo} {cv : Nat → Value} {vs : List Value} (h : CpS w0 wr rb p C0 C1 C2 C3 C4 C5 r0 r1 r2 r3 r4 r5 l cv vs) (hb : Below wr.heap.size wr w') : CpS w0 w' rb p C0 C1 C2 C3 C4 C5 r0 r1 r2 r3 r4 r5 l cv vs :=
  ⟨Below.to h.below hb (Nat.le_refl _), h.pw, heap_below h.box hb, owns_below h.n hb, h.f.below hb, owns_below h.s hb, owns_below h.u hb, owns_below h.p hb, owns_below h.w hb, fun i hi => (h.x i hi).keeps (grown_of_below (row := none) hb) (fun k hk => by cases hk), h.rb⟩
/-- What each operation of the copy's first statement leaves. -/
def copR (w0 : World) (l : Lo) (cv : Nat → Value) (j : Nat) (v : Value) (w : World) : Prop :=
  match j with
  | 0 => w0.heap.size ≤ w.heap.size ∧ ∃ g, v = .slice (some ⟨g, 0, none⟩) 0 0 ∧ w.ownsRow w0.heap.size 155 3 v 0 []
  | 4 => w0.heap.size ≤ w.heap.size ∧ ∃ g, v = .slice (some ⟨g, 0, none⟩) 0 0 ∧ w.ownsRow w0.heap.size 157 4 v 0 []
  | 8 => w0.heap.size ≤ w.heap.size ∧ ∃ g, v = .slice (some ⟨g, 0, none⟩) 0 0 ∧ w.ownsRow w0.heap.size 159 3 v 0 []
  | 12 => w0.heap.size ≤ w.heap.size ∧ ∃ g, v = .slice (some ⟨g, 0, none⟩) 0 0 ∧ w.ownsRow w0.heap.size 76 7 v 0 []
  | 3 => w.ownsRow w0.heap.size 155 3 v l.ss.length (flat l.ss.length 3 (spF l.ss))
  | 7 => w.ownsRow w0.heap.size 157 4 v l.us.length (flat l.us.length 4 (ruF l.us))
  | 11 => w.ownsRow w0.heap.size 159 3 v l.ps.length (flat l.ps.length 3 (plF l.ps))
  | 15 => w.ownsRow w0.heap.size 76 7 v l.ws.length (flat l.ws.length 7 (wiF l.ws cv))
  | 16 => ∃ a b c d, v = .agg #[.slice none 0 0, .slice none 0 0, a, b, c, d] ∧ w.ownsRow w0.heap.size 155 3 a l.ss.length (flat l.ss.length 3 (spF l.ss)) ∧ w.ownsRow w0.heap.size 157 4 b l.us.length (flat l.us.length 4 (ruF l.us)) ∧
      w.ownsRow w0.heap.size 159 3 c l.ps.length (flat l.ps.length 3 (plF l.ps)) ∧ w.ownsRow w0.heap.size 76 7 d l.ws.length (flat l.ws.length 7 (wiF l.ws cv))
  | 17 => ∃ p, v = .pointer (some ⟨p, 0, none⟩) ∧ w0.heap.size ≤ p ∧ w.heap[p]? = some (.cells #[.slice none 0 0, .slice none 0 0, .slice none 0 0, .slice none 0 0, .slice none 0 0, .slice none 0 0] 31 (0, 0))
  | _ => True
end Go.Proofs.YtehadoecnmfeoaaGreat
/- Slices cloned: walks. -/
namespace Go.Proofs.YtehadoecnmfeoaaGreat
open Go.RowKit
set_option linter.unusedVariables false
set_option linter.unusedSimpArgs false
theorem Reads.none6 {w : World} {B sz n : Nat} {xs : List Value} (h : Reads w B sz none n xs) : n = 0 ∧ xs = [] := by
  rcases Nat.eq_zero_or_pos n with h0 | h0
  · subst h0
    have := h.1
    rw [Nat.zero_mul] at this
    exact ⟨rfl, List.eq_nil_of_length_eq_zero this⟩
  · obtain ⟨ad, h1, _⟩ := h.2 h0
    cases h1
end Go.Proofs.YtehadoecnmfeoaaGreat
/- The search for boards: what its closure has captured. -/
namespace Go.Proofs.YtehadoecnmfeoaaGreat
open Go.RowKit
set_option linter.unusedVariables false
set_option linter.unusedSimpArgs false
set_option maxRecDepth 100000 in
set_option maxHeartbeats 2000000 in
theorem cloneIn9_any (A : Option Addr) (n q : Nat) (xs : List Value) (w : World) (h : Reads w w.heap.size 1 A n xs) (h1 : ∀ u ∈ xs, u.oneCell' = true) (hl : n ≤ 1000) :
    Calls Tryz.prog 79 #[.slice A n q] w fun e w' => ∃ v, e = .returned v ∧ w'.ownsRow w.heap.size 3 1 v n xs ∧ Below w.heap.size w w' := by
  obtain ⟨i1, hi1, jz0, jz1, jz2⟩ := info_parts infoInt
  have q22 : ∀ (w : World) (a : Option Addr) (n c n' c' : Nat), (binOp .eql 45 (.slice a n c) (.slice none n' c')).run Tryz.prog w = .ok (.bool a.isNone) w := fun w a n c n' c' => Lib.run_eql_slice_nil w _ _ a n c n' c' Tryz.underlying45
  cases A with
  | none =>
    obtain ⟨hn, hx⟩ := Reads.none6 h
    subst hn hx
    clear h h1
    go_enter Tryz.func79, Tryz.ntmps79
    go_wp2_with fail
    go_ret
    exact ⟨_, rfl, World.ownsRow_nil _ _ _ _, Below.refl _ _⟩
  | some ad =>
    have HR := hide h
    have H1 := hide h1
    clear h h1
    go_enter Tryz.func79, Tryz.ntmps79
    go_wp2_with (at_builtin; refine wpList_append_any _ rfl (.tmp 5) (.tmp 6) _ rfl w.heap.size 3 i1 _ 1 8 Tryz.underlying45 hi1 jz0 jz1 jz2 rfl (by decide) _ 0 [] rfl (World.ownsRow_made w #[] 0 (Nat.le_refl _) (by unfold maxLen; omega) rfl) w.heap.size (some ad) n q xs rfl (HR.out.alloc (Nat.le_refl _) _) H1.out (by unfold maxLen; omega) (by omega) (by simp) ?_; intro v1 w1 hown1 hg1 _; rw [Nat.zero_add, List.nil_append] at hown1; have HO := hide hown1; have HG := hide hg1; clear hown1 hg1)
    go_ret
    exact ⟨v1, rfl, HO.out, Below.grown (Below.allocT (Below.refl _ _) (Nat.le_refl _) _) HG.out (by simp) (fun j hj => by injection hj with hj; exact Nat.le_of_eq hj)⟩

theorem one_nvL (S : List Nat) : ∀ u ∈ nvL S, u.oneCell' = true := fun u hu => by
  unfold nvL at hu
  obtain ⟨x, _, rfl⟩ := List.mem_map.1 hu
  rfl
/-- Four numbers in a box of their own. -/
def Arr4 (w : World) (g : Nat) (S : Nat → Nat) : Prop := w.heap[g]? = some (.cells #[.int .i64 (S 0 : Nat), .int .i64 (S 1 : Nat), .int .i64 (S 2 : Nat), .int .i64 (S 3 : Nat)] 118 (0, 0))
theorem Arr4.cell {w : World} {g : Nat} {S : Nat → Nat} (h : Arr4 w g S) {j : Nat} (hj : j < 4) : w.cell? ⟨g, j, none⟩ = some (.int .i64 (S j : Nat)) := by
  rw [cellOf h j]
  obtain rfl | rfl | rfl | rfl : j = 0 ∨ j = 1 ∨ j = 2 ∨ j = 3 := by omega
  all_goals rfl
theorem Arr4.set {w : World} {g : Nat} {S : Nat → Nat} (h : Arr4 w g S) {b : Nat} (hb : b < 4) (p : Nat) : Arr4 (w.setCell ⟨g, b, none⟩ (.int .i64 ((S b + p : Nat) : Int))) g (addS S b p) := by
  have h1 := setCellOf (i := b) h (.int .i64 ((S b + p : Nat) : Int))
  unfold Arr4
  rw [h1]
  obtain rfl | rfl | rfl | rfl : b = 0 ∨ b = 1 ∨ b = 2 ∨ b = 3 := by omega
  all_goals rfl
theorem Arr4.of {w w' : World} {g : Nat} {S : Nat → Nat} (h : Arr4 w g S) (hb : w'.heap[g]? = w.heap[g]?) : Arr4 w' g S := hb.trans h
/-- The blocks that the search may write: its two results and the row that is begun. -/
def lyS (eb bb : Nat) (bv : Value) (j : Nat) : Prop := j = eb ∨ j = bb ∨ bv.ownBlock = some j
def NewB (ov ov' : Value) (z : Nat) : Prop := ov' = ov ∨ ∀ g, ov'.ownBlock = some g → z ≤ g
theorem NewB.trans {a b c : Value} {y z : Nat} (h : NewB a b y) (k : NewB b c z) (hz : y ≤ z) : NewB a c y := by
  rcases k with rfl | k
  · exact h
  · exact .inr fun g hg => Nat.le_trans hz (k g hg)
structure LyAt (w0 w : World) (n0 mb lb eb bb nb xb : Nat) (mv lv : Value) (n : Nat) (LD : List Nat) (le : Int) (ov : Value) (BO : List Nat) : Prop where
  below : Below w0.heap.size w0 w
  mc : w.heap[mb]? = some (.cells #[mv] 32 (0, 0))
  lc : w.heap[lb]? = some (.cells #[lv] 45 (0, 0))
  ec : w.heap[eb]? = some (.cells #[.int .i64 le] 3 (0, 0))
  bc : w.heap[bb]? = some (.cells #[ov] 45 (0, 0))
  nc : w.heap[nb]? = some (.cells #[.int .i64 (n : Nat)] 3 (0, 0))
  xc : w.heap[xb]? = some (.cells #[.func (.func 78) #[] #[.pointer (some ⟨mb, 0, none⟩), .pointer (some ⟨lb, 0, none⟩), .pointer (some ⟨eb, 0, none⟩), .pointer (some ⟨bb, 0, none⟩), .pointer (some ⟨nb, 0, none⟩), .pointer (some ⟨xb, 0, none⟩)]] 117 (0, 0))
  ld : w.ownsRow 0 3 1 lv LD.length (nvL LD)
  own : w.ownsRow n0 3 1 ov BO.length (nvL BO)
  ldn : ∀ k, lv.ownBlock = some k → k < n0 ∧ k ≠ eb ∧ k ≠ bb
  hi : mb < n0 ∧ lb < n0 ∧ eb < n0 ∧ bb < n0 ∧ nb < n0 ∧ xb < n0
  ne : (mb ≠ eb ∧ lb ≠ eb ∧ nb ≠ eb ∧ xb ≠ eb) ∧ (mb ≠ bb ∧ lb ≠ bb ∧ nb ≠ bb ∧ xb ≠ bb) ∧ eb ≠ bb
  lo : w0.heap.size ≤ eb ∧ w0.heap.size ≤ bb
  sz : n0 ≤ w.heap.size
section
variable {w0 w w' : World} {n0 mb lb eb bb nb xb n : Nat} {mv lv ov : Value} {LD BO : List Nat} {le : Int}
theorem LyAt.kept (h : LyAt w0 w n0 mb lb eb bb nb xb mv lv n LD le ov BO) {T : Nat → Prop} (k : Keeps T w w') (hT : ∀ j, T j → n0 ≤ j ∧ ov.ownBlock ≠ some j) : LyAt w0 w' n0 mb lb eb bb nb xb mv lv n LD le ov BO := by
  have hn0 : w0.heap.size ≤ n0 := by have := h.lo; have := h.hi; omega
  have hb : ∀ j, j < n0 → w'.heap[j]? = w.heap[j]? := fun j hj => k.block j (Nat.lt_of_lt_of_le hj h.sz) fun ht => by have := (hT j ht).1; omega
  obtain ⟨h1, h2, h3, h4, h5, h6⟩ := h.hi
  exact ⟨Below.trans h.below (k.below h.below.size fun j hj => Nat.le_trans hn0 (hT j hj).1), (hb _ h1).trans h.mc, (hb _ h2).trans h.lc, (hb _ h3).trans h.ec, (hb _ h4).trans h.bc, (hb _ h5).trans h.nc, (hb _ h6).trans h.xc, ownsRow_same7 h.ld fun j hj => hb j (h.ldn j hj).1, ownsRow_same7 h.own fun j hj => k.block j (h.own.lt j hj).2 fun ht => (hT j ht).2 hj, h.ldn, h.hi, h.ne, h.lo, Nat.le_trans h.sz k.size⟩
theorem LyAt.to (h : LyAt w0 w n0 mb lb eb bb nb xb mv lv n LD le ov BO) (k : Below w.heap.size w w') : LyAt w0 w' n0 mb lb eb bb nb xb mv lv n LD le ov BO := h.kept (T := fun _ => False) (Keeps.of_below k) fun _ h => h.elim
theorem LyAt.put (h : LyAt w0 w n0 mb lb eb bb nb xb mv lv n LD le ov BO) {L : List Nat} {v2 : Value} (hv : w.ownsRow n0 3 1 v2 L.length (nvL L)) (le' : Int) : LyAt w0 ((w.setCell ⟨bb, 0, none⟩ v2).setCell ⟨eb, 0, none⟩ (.int .i64 le')) n0 mb lb eb bb nb xb mv lv n LD le' v2 L := by
  obtain ⟨⟨a1, a2, a3, a4⟩, ⟨b1, b2, b3, b4⟩, c1⟩ := h.ne
  obtain ⟨h1, h2, h3, h4, h5, h6⟩ := h.hi
  have hk : ∀ j, j ≠ eb → j ≠ bb → ((w.setCell ⟨bb, 0, none⟩ v2).setCell ⟨eb, 0, none⟩ (.int .i64 le')).heap[j]? = w.heap[j]? := fun j e1 e2 => (Below.heap_setCell _ _ _ _ e1).trans (Below.heap_setCell _ _ _ _ e2)
  refine ⟨Below.setCell (Below.setCell h.below h.lo.2 _) h.lo.1 _, (hk _ a1 b1).trans h.mc, (hk _ a2 b2).trans h.lc, ?_, ?_, (hk _ a3 b3).trans h.nc, (hk _ a4 b4).trans h.xc, ownsRow_same7 h.ld fun j hj => hk j (h.ldn j hj).2.1 (h.ldn j hj).2.2, ownsRow_same7 hv fun j hj => ?_, h.ldn, h.hi, h.ne, h.lo, by simpa [World.setCell] using h.sz⟩
  · exact setCellOf ((Below.heap_setCell _ _ _ _ c1).trans h.ec) _
  · exact (Below.heap_setCell _ _ _ _ (fun e => c1 e.symm)).trans (setCellOf h.bc v2)
  · have := (hv.lt j hj).1
    exact hk j (by omega) (by omega)
end
/-- What the search leaves. -/
def LyP (w0 w : World) (n0 mb lb eb bb nb xb : Nat) (mv lv : Value) (n : Nat) (LD : List Nat) (ov bv : Value) (L : List Nat) (r : List Nat × Int) (e : Ending) (w' : World) : Prop :=
  ∃ ov', e = .returned (.tuple #[]) ∧ LyAt w0 w' n0 mb lb eb bb nb xb mv lv n LD r.2 ov' r.1 ∧ w'.ownsRow n0 3 1 bv L.length (nvL L) ∧ NewB ov ov' w.heap.size ∧ Keeps (lyS eb bb bv) w w'
/-- The elder slice, behind a call that went on in its row or in another. -/
theorem own_back {wa wr w5 w7 : World} {n0 eb bb : Nat} {bv v5 : Value} {L : List Nat} {b : Nat} (h : wr.ownsRow n0 3 1 bv L.length (nvL L))
    (hs : (∃ g cap, bv = .slice (some ⟨g, 0, none⟩) L.length cap ∧ v5 = .slice (some ⟨g, 0, none⟩) (L.length + 1) cap) ∨ (v5.ownBlock = some wa.heap.size ∧ wa.grownBy w5 none)) (hwa : ∀ j, j < wr.heap.size → wa.heap[j]? = wr.heap[j]?) (hsz : wr.heap.size ≤ wa.heap.size)
    (h7 : w7.ownsRow n0 3 1 v5 (L ++ [b]).length (nvL (L ++ [b]))) (hk : Keeps (lyS eb bb v5) w5 w7) (he : eb < n0) (hb : bb < n0) : w7.ownsRow n0 3 1 bv L.length (nvL L) := by
  rcases hs with ⟨g, cap, rfl, rfl⟩ | ⟨h1, h2⟩
  · rw [List.length_append, List.length_singleton] at h7
    have hc := own_cut h7 (r := L.length) (by omega)
    rw [nvL_take] at hc
    exact hc
  · refine ownsRow_same7 h fun j hj => ?_
    obtain ⟨h3, h4⟩ := h.lt j hj
    have e1 := h2.block j (Nat.lt_of_lt_of_le h4 hsz) (by simp)
    refine (hk.block j (Nat.lt_of_lt_of_le (Nat.lt_of_lt_of_le h4 hsz) h2.size) ?_).trans (e1.trans (hwa j h4))
    rintro (rfl | rfl | h5)
    · omega
    · omega
    · rw [h1] at h5
      injection h5 with h5
      omega
theorem step_append_sib {P : Program} {w : World} {ops : Array Oper} {o : Oper} {a : Act} {K : Act → World → Prop} {Q : Exit → Act → World → Prop} {E : Prop} (hgd : o.guard = none) (s x : Operand) (t : TypeId)
    (ho : o.op = .call { callee := .builtin .append, args := #[s, x], argTypes := #[t, t] })
    (base : Nat) (e : TypeId) (i : TypeInfo) (z : Value) (size bytes : Nat) (ht : P.underlying t = some (.slice e)) (hi : P.info? e = some i) (hz : i.zero = some z)
    (hsize : i.size = size) (hby : i.bytes = bytes) (hzs : z.cells.size = size) (hsz : 0 < size)
    (v : Value) (n : Nat) (xs : List Value) (hs : a.eval s = v) (hown : w.ownsRow base e size v n xs)
    (ad : Addr) (m c : Nat) (news : List Value) (hx : a.eval x = .slice (some ad) m c) (hl : news.length = m * size) (hnews : ∀ j u, news[j]? = some u → w.cell? (ad.add j) = some u) (h1 : ∀ u ∈ news, u.oneCell' = true)
    (h63 : n + m ≤ maxLen) (hbytes : (n + m) * bytes ≤ 140737488355328) (hbase : base ≤ w.heap.size) (hm : 0 < m)
    (h : ∀ v' w', w'.ownsRow base e size v' (n + m) (xs ++ news) → w.grownBy w' v.ownBlock → ((∃ g cap, v = .slice (some ⟨g, 0, none⟩) n cap ∧ v' = .slice (some ⟨g, 0, none⟩) (n + m) cap) ∨ (v'.ownBlock = some w.heap.size ∧ w.grownBy w' none)) → K (a.put o.dst v') w') :
    if Region.wanted o (yielded ops a.tmps) = true then Oper.wp P o a w K Q else E := by
  have hw : Region.wanted o (yielded ops a.tmps) = true := by simp [Region.wanted, hgd]
  rw [if_pos hw]
  obtain ⟨v', w', hrun, h2, h3, h4⟩ := run_append_sib (P := P) w base t o.type e i z size bytes ht hi hz hsize hby hzs hsz v n xs hown ad m c news hl hnews h1 h63 hbytes hbase hm
  unfold Oper.wp execOp
  simp only [ho, resolve, invoke, builtin, Sem.run_bind, Sem.run_pure, Result.andThen_ok, List.map_toArray, List.map_cons, List.map_nil, hs, hx, hrun]
  exact h v' w' h2 h3 h4
end Go.Proofs.YtehadoecnmfeoaaGreat

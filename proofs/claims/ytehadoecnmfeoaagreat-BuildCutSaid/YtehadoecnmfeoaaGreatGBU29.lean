/- Part 29 of this claim's texts: walks and plain laws. -/
import Derived.Test.YtehadoecnmfeoaaGreatRows
import Derived.Test.YtehadoecnmfeoaaGreatGBU28
import Derived.Deep.RegionHeld3
import Derived.Deep.DrawnRows
import Derived.Test.YtehadoecnmfeoaaGreatGBU2
import Derived.Test.YtehadoecnmfeoaaGreatGBU11
import Derived.Test.YtehadoecnmfeoaaGreatGBU10
import Derived.Test.YtehadoecnmfeoaaGreatGBU3
import Derived.Test.YtehadoecnmfeoaaGreatGBU17
import Derived.Laws.EntriesVeiled
/- The runs that can be overfilled: walks. -/
namespace Go.Proofs.YtehadoecnmfeoaaGreat
open Go.RowKit
set_option linter.unusedVariables false
set_option linter.unusedSimpArgs false
def tigB (l : Lo) (k : Nat) : Bool := decide (worE l k = 0) && decide ((l.us.getD k Ru.o).room < worN l k)
def tigL (l : Lo) : List Nat := if l.err = 0 then (List.range l.us.length).filter (tigB l) else []
/-- A list of numbers and an error. -/
def TigP (L : List Nat) (er : Int) (w : World) (e : Ending) (w' : World) : Prop := ∃ v, e = .returned (.tuple #[v, .int .i64 er]) ∧ Nods w' w'.heap.size v L ∧ Below w.heap.size w w'
end Go.Proofs.YtehadoecnmfeoaaGreat
/- A loom copied: walk. -/
namespace Go.Proofs.YtehadoecnmfeoaaGreat
open Go.RowKit
set_option linter.unusedVariables false
set_option linter.unusedSimpArgs false
def spF (l : List Sp) (i j : Nat) : Value := spC (l.getD i Sp.o) j
def ruF (l : List Ru) (i j : Nat) : Value := ruC (l.getD i Ru.o) j
def plF (l : List Pl) (i j : Nat) : Value := plC (l.getD i Pl.o) j
def wiF (l : List Wi) (cv : Nat → Value) (i j : Nat) : Value := wiC (l.getD i Wi.o) (cv i) j
def nmF (l : List ByteArray) (i j : Nat) : Value := .string (l.getD i ByteArray.empty)
theorem flat_ext {n sz : Nat} {f : Nat → Nat → Value} {xs : List Value} (hsz : 0 < sz) (hl : xs.length = n * sz) (h : ∀ i j, i < n → j < sz → xs[i * sz + j]? = some (f i j)) : xs = flat n sz f := by
  apply List.ext_getElem?
  intro m
  rcases Nat.lt_or_ge m (n * sz) with h1 | h1
  · have h2 : (flat n sz f)[m]? = some ((flat n sz f)[m]'(by rw [flat_length]; exact h1)) := List.getElem?_eq_getElem _
    obtain ⟨i, j, hi, hj, rfl, hu⟩ := flat_inv hsz h2
    rw [h i j hi hj, flat_get hi hj]
  · rw [List.getElem?_eq_none (by omega), List.getElem?_eq_none (by rw [flat_length]; exact h1)]
theorem flat_set {n sz k j0 : Nat} {f g : Nat → Nat → Value} {u : Value} (hsz : 0 < sz) (hk : k < n) (hj : j0 < sz) (hu : g k j0 = u) (hg : ∀ i j, i < n → j < sz → (i ≠ k ∨ j ≠ j0) → g i j = f i j) : (flat n sz f).set (k * sz + j0) u = flat n sz g := by
  refine flat_ext hsz (by rw [List.length_set, flat_length]) fun i j hi hjj => ?_
  by_cases he : i = k ∧ j = j0
  · obtain ⟨rfl, rfl⟩ := he
    rw [List.getElem?_set_self (by rw [flat_length]; exact idx_lt hi hjj), hu]
  · have hne : k * sz + j0 ≠ i * sz + j := by
      intro e
      have h1 : (k * sz + j0) / sz = k := by rw [Nat.mul_comm, Nat.mul_add_div hsz, Nat.div_eq_of_lt hj]; omega
      have h2 : (i * sz + j) / sz = i := by rw [Nat.mul_comm, Nat.mul_add_div hsz, Nat.div_eq_of_lt hjj]; omega
      rw [e, h2] at h1
      subst h1
      exact he ⟨rfl, by omega⟩
    rw [List.getElem?_set_ne hne, flat_get hi hjj, hg i j hi hjj (by omega)]
/-- Formulas in rows of their own. -/
structure FoO (wr : World) (B : Nat) (v : Value) (L : List (List Int)) (vs : List Value) : Prop where
  len : vs.length = L.length
  own : wr.ownsRow B 46 1 v L.length vs
  row : ∀ i, i < L.length → wr.ownsRow B 3 1 (vs.getD i undef) (L.getD i []).length ((L.getD i []).map (Value.int .i64))
theorem FoO.below {wr w' : World} {B : Nat} {v : Value} {L : List (List Int)} {vs : List Value} (h : FoO wr B v L vs) (hb : Below wr.heap.size wr w') : FoO w' B v L vs := ⟨h.len, owns_below h.own hb, fun i hi => owns_below (h.row i hi) hb⟩
theorem FoO.grown {wr w' : World} {B g t : Nat} {v : Value} {L : List (List Int)} {vs : List Value} {C : Array Value} (h : FoO wr B v L vs) (hg : wr.grownBy w' (some g)) (ht : wr.heap[g]? = some (.cells C t (0, 0))) (h1 : 46 ≠ t) (h2 : 3 ≠ t) : FoO w' B v L vs := ⟨h.len, owns_grown h.own hg ht h1, fun i hi => owns_grown (h.row i hi) hg ht h2⟩
theorem FoO.forms {wr : World} {B : Nat} {v : Value} {L : List (List Int)} {vs : List Value} (h : FoO wr B v L vs) : Forms wr wr.heap.size v L := by
  refine ⟨fun i => vs.getD i undef, Sl.of_owns h.own fun i j hi hj => ?_, fun i hi => ints_own6 (h.row i hi)⟩
  obtain rfl : j = 0 := by omega
  have := h.len
  have hi2 : i < vs.length := by omega
  rw [Nat.mul_one, Nat.add_zero]
  simp [hi2]
/-- Numbers apart from some blocks. -/
def IntsX (w : World) (X : Nat → Prop) (v : Value) (f : List Int) : Prop :=
  ∃ (A : Option Addr) (b off cap : Nat), v = .slice A f.length cap ∧ f.length ≤ cap ∧ (A = some ⟨b, off, none⟩ ∧ b < w.heap.size ∧ ¬ X b ∨ f.length = 0) ∧ ∀ i, i < f.length → w.cell? ⟨b, off + i, none⟩ = some (.int .i64 (f.getD i 0))
theorem IntsX.ints {w : World} {X : Nat → Prop} {v : Value} {f : List Int} (h : IntsX w X v f) : Ints w w.heap.size v f := by
  obtain ⟨A, b, off, cap, h1, h2, h3, h4⟩ := h
  refine ⟨A, b, off, cap, h1, h2, h3.imp (fun ⟨a, c, _⟩ => ⟨a, c⟩) id, fun i j hi hj => ?_⟩
  obtain rfl : j = 0 := by omega
  rw [Nat.mul_one, Nat.add_zero]
  exact h4 i hi
theorem IntsX.of {w : World} {B : Nat} {X : Nat → Prop} {v : Value} {f : List Int} (h : Ints w B v f) (hB : B ≤ w.heap.size) (hg : ∀ b, X b → B ≤ b) : IntsX w X v f := by
  obtain ⟨A, b, off, cap, h1, h2, h3, h4⟩ := h
  refine ⟨A, b, off, cap, h1, h2, h3.imp (fun ⟨a, c⟩ => ⟨a, by omega, fun e => by have := hg b e; omega⟩) id, fun i hi => ?_⟩
  have := h4 i 0 hi (by omega)
  rwa [Nat.mul_one, Nat.add_zero] at this
theorem IntsX.keeps {w w' : World} {X : Nat → Prop} {row : Option Nat} {v : Value} {f : List Int} (h : IntsX w X v f) (hg : w.grownBy w' row) (hX : ∀ k, row = some k → X k) : IntsX w' X v f := by
  obtain ⟨A, b, off, cap, h1, h2, h3, h4⟩ := h
  refine ⟨A, b, off, cap, h1, h2, h3.imp (fun ⟨a, c, d⟩ => ⟨a, Nat.lt_of_lt_of_le c hg.size, d⟩) id, fun i hi => ?_⟩
  rcases h3 with ⟨_, hb, hne⟩ | h0
  · rw [World.cell?_of_block (a := ⟨b, off + i, none⟩) (hg.block b hb (fun e => hne (hX b e.symm)))]
    exact h4 i hi
  · omega
theorem IntsX.own {w : World} {base rb e sz n : Nat} {xs : List Value} {gv v : Value} {f : List Int} (h : w.ownsRow base 3 1 v f.length (f.map (Value.int .i64))) (hg : w.ownsRow base e sz gv n xs) (hne : 3 ≠ e) (hrb : rb < base) : IntsX w (fun b => b = rb ∨ gv.ownBlock = some b) v f := by
  have h0 := ints_own6 h
  have hlt := h.lt
  obtain ⟨A, b, off, cap, h1, h2, h3, h4⟩ := h0
  refine ⟨A, b, off, cap, h1, h2, h3.imp (fun ⟨a, c⟩ => ⟨a, c, fun q => ?_⟩) id, fun i hi => by have := h4 i 0 hi (by omega); rwa [Nat.mul_one, Nat.add_zero] at this⟩
  have hbb := (hlt b (by rw [h1, a]; rfl)).1
  rcases q with q | q
  · omega
  obtain ⟨_, ⟨h5, _⟩ | ⟨g', cp, cur, h5, _, h6, _⟩⟩ := hg
  · rw [h5] at q; cases q
  · rw [h5] at q
    injection q with q
    simp only at q
    subst q
    exact ownsNot h h6 hne (by rw [h1, a]; rfl)
/-- The copy while the wires' formulas are copied. -/
structure CpS (w0 wr : World) (rb p : Nat) (C0 C1 C2 C3 C4 C5 : Option Addr) (r0 r1 r2 r3 r4 r5 : Nat) (l : Lo) (cv : Nat → Value) (vs : List Value) : Prop where
  below : Below w0.heap.size w0 wr
  pw : w0.heap.size ≤ p
  box : wr.heap[p]? = some (.cells #[.slice C0 l.m.opts.length r0, .slice C1 l.m.rules.length r1, .slice C2 l.ss.length r2, .slice C3 l.us.length r3, .slice C4 l.ps.length r4, .slice C5 l.ws.length r5] 31 (0, 0))
  n : wr.ownsRow w0.heap.size 9 1 (.slice C0 l.m.opts.length r0) l.m.opts.length (flat l.m.opts.length 1 (nmF l.m.opts))
  f : FoO wr w0.heap.size (.slice C1 l.m.rules.length r1) l.m.rules vs
  s : wr.ownsRow w0.heap.size 155 3 (.slice C2 l.ss.length r2) l.ss.length (flat l.ss.length 3 (spF l.ss))
  u : wr.ownsRow w0.heap.size 157 4 (.slice C3 l.us.length r3) l.us.length (flat l.us.length 4 (ruF l.us))
  p : wr.ownsRow w0.heap.size 159 3 (.slice C4 l.ps.length r4) l.ps.length (flat l.ps.length 3 (plF l.ps))
  w : wr.ownsRow w0.heap.size 76 7 (.slice C5 l.ws.length r5) l.ws.length (flat l.ws.length 7 (wiF l.ws cv))
  x : ∀ i, i < l.ws.length → IntsX wr (fun b => b = rb ∨ (Value.slice C5 l.ws.length r5).ownBlock = some b) (cv i) (l.ws.getD i Wi.o).form
  rb : rb < w0.heap.size
theorem CpS.loom {w0 wr : World} {rb p : Nat} {C0 C1 C2 C3 C4 C5 : Option Addr} {r0 r1 r2 r3 r4 r5 : Nat} {l : Lo} {cv : Nat → Value} {vs : List Value} (h : CpS w0 wr rb p C0 C1 C2 C3 C4 C5 r0 r1 r2 r3 r4 r5 l cv vs) : LoA wr wr.heap.size C0 C1 C2 C3 C4 C5 r0 r1 r2 r3 r4 r5 l :=
  ⟨⟨Sl.of_owns h.n fun i j hi hj => (flat_get hi hj).trans rfl, h.f.forms⟩, Sl.of_owns h.s fun i j hi hj => flat_get hi hj, Sl.of_owns h.u fun i j hi hj => flat_get hi hj, Sl.of_owns h.p fun i j hi hj => flat_get hi hj, cv, Sl.of_owns h.w fun i j hi hj => flat_get hi hj, fun i hi => (h.x i hi).ints⟩
theorem CpS.to {w0 wr w' : World} {rb p : Nat} {C0 C1 C2 C3 C4 C5 : Option Addr} {r0 r1 r2 r3 r4 r5 : Nat} {l : Lo} {cv : Nat → Value} {vs : List Value} (h : CpS w0 wr rb p C0 C1 C2 C3 C4 C5 r0 r1 r2 r3 r4 r5 l cv vs) (hb : Below wr.heap.size wr w') : CpS w0 w' rb p C0 C1 C2 C3 C4 C5 r0 r1 r2 r3 r4 r5 l cv vs :=
  ⟨Below.to h.below hb (Nat.le_refl _), h.pw, heap_below h.box hb, owns_below h.n hb, h.f.below hb, owns_below h.s hb, owns_below h.u hb, owns_below h.p hb, owns_below h.w hb, fun i hi => (h.x i hi).keeps (grown_of_below (row := none) hb) (fun k hk => by cases hk), h.rb⟩
theorem CpS.store {w0 wr : World} {rb p g : Nat} {C0 C1 C2 C3 C4 : Option Addr} {r0 r1 r2 r3 r4 r5 : Nat} {l : Lo} {cv : Nat → Value} {vs : List Value} {k : Nat} {v : Value} (h : CpS w0 wr rb p C0 C1 C2 C3 C4 (some ⟨g, 0, none⟩) r0 r1 r2 r3 r4 r5 l cv vs) (hk : k < l.ws.length)
    (hv : wr.ownsRow w0.heap.size 3 1 v (l.ws.getD k Wi.o).form.length ((l.ws.getD k Wi.o).form.map (Value.int .i64))) : CpS w0 (wr.setCell ⟨g, k * 7 + 6, none⟩ v) rb p C0 C1 C2 C3 C4 (some ⟨g, 0, none⟩) r0 r1 r2 r3 r4 r5 l (fun i => if i = k then v else cv i) vs := by
  obtain ⟨cur, hgb, hgh⟩ : ∃ cur, w0.heap.size ≤ g ∧ wr.heap[g]? = some (.cells cur 76 (0, 0)) := by
    rcases h.w.2 with ⟨h1, _⟩ | ⟨g', cap, cur, h1, h2, h3, _⟩
    · cases h1
    · injection h1 with e1
      injection e1 with e1
      injection e1 with e1
      subst e1
      exact ⟨cur, h2, h3⟩
  obtain ⟨h1, hg⟩ := h.w.stored (k * 7 + 6) v
  have hp : p ≠ g := fun e => by
    have := h.box
    rw [e, hgh] at this
    injection this with this
    injection this with _ this
    exact absurd this (by decide)
  refine ⟨Below.setCell h.below hgb _, h.pw, (Below.heap_setCell _ _ _ _ hp).trans h.box, owns_grown h.n hg hgh (by decide), h.f.grown hg hgh (by decide) (by decide), owns_grown h.s hg hgh (by decide), owns_grown h.u hg hgh (by decide), owns_grown h.p hg hgh (by decide), ?_, fun i hi => ?_, h.rb⟩
  · rw [flat_set (g := wiF l.ws (fun i => if i = k then v else cv i)) (by omega) hk (by omega) (by unfold wiF wiC; simp) (fun i j hi hj hne => by
      unfold wiF wiC
      by_cases e : i = k
      · subst e
        have : j ≠ 6 := by omega
        match j, hj with
        | 0, _ => rfl
        | 1, _ => rfl
        | 2, _ => rfl
        | 3, _ => rfl
        | 4, _ => rfl
        | 5, _ => rfl
        | 6, _ => exact absurd rfl this
      · simp [e])] at h1
    exact h1
  · by_cases e : i = k
    · subst e
      have := (IntsX.own hv h.w (by decide) h.rb).keeps hg (fun k hk => .inr hk)
      simpa using this
    · have := (h.x i hi).keeps hg (fun k hk => .inr hk)
      simpa [e] using this
/-- What each operation of the copy's first statement leaves. -/
def copR (w0 : World) (l : Lo) (cv : Nat → Value) (j : Nat) (v : Value) (w : World) : Prop :=
  match j with
  | 0 => w0.heap.size ≤ w.heap.size ∧ ∃ g, v = .slice (some ⟨g, 0, none⟩) 0 0 ∧ w.ownsRow w0.heap.size 155 3 v 0 []
  | 4 => w0.heap.size ≤ w.heap.size ∧ ∃ g, v = .slice (some ⟨g, 0, none⟩) 0 0 ∧ w.ownsRow w0.heap.size 157 4 v 0 []
  | 8 => w0.heap.size ≤ w.heap.size ∧ ∃ g, v = .slice (some ⟨g, 0, none⟩) 0 0 ∧ w.ownsRow w0.heap.size 159 3 v 0 []
  | 12 => w0.heap.size ≤ w.heap.size ∧ ∃ g, v = .slice (some ⟨g, 0, none⟩) 0 0 ∧ w.ownsRow w0.heap.size 76 7 v 0 []
  | 3 => w.ownsRow w0.heap.size 155 3 v l.ss.length (flat l.ss.length 3 (spF l.ss))
  | 7 => w.ownsRow w0.heap.size 157 4 v l.us.length (flat l.us.length 4 (ruF l.us))
  | 11 => w.ownsRow w0.heap.size 159 3 v l.ps.length (flat l.ps.length 3 (plF l.ps))
  | 15 => w.ownsRow w0.heap.size 76 7 v l.ws.length (flat l.ws.length 7 (wiF l.ws cv))
  | 16 => ∃ a b c d, v = .agg #[.slice none 0 0, .slice none 0 0, a, b, c, d] ∧ w.ownsRow w0.heap.size 155 3 a l.ss.length (flat l.ss.length 3 (spF l.ss)) ∧ w.ownsRow w0.heap.size 157 4 b l.us.length (flat l.us.length 4 (ruF l.us)) ∧
      w.ownsRow w0.heap.size 159 3 c l.ps.length (flat l.ps.length 3 (plF l.ps)) ∧ w.ownsRow w0.heap.size 76 7 d l.ws.length (flat l.ws.length 7 (wiF l.ws cv))
  | 17 => ∃ p, v = .pointer (some ⟨p, 0, none⟩) ∧ w0.heap.size ≤ p ∧ w.heap[p]? = some (.cells #[.slice none 0 0, .slice none 0 0, .slice none 0 0, .slice none 0 0, .slice none 0 0, .slice none 0 0] 31 (0, 0))
  | _ => True
end Go.Proofs.YtehadoecnmfeoaaGreat
/- The wires of a variant that use a run: walks. -/
namespace Go.Proofs.YtehadoecnmfeoaaGreat
open Go.RowKit
set_option linter.unusedVariables false
set_option linter.unusedSimpArgs false
/-- Whether a variant has a wire. -/
def inB (l : Lo) (v : List Bool) (i : Nat) : Bool := holB l.m (l.ws.getD i Wi.o).form v
def carE (l : Lo) (run : Int) (v : List Bool) : Int := havE l (btw run 0 ((l.us.length : Int) - 1) && decide (v.length = l.m.opts.length))
def carL (l : Lo) (run : Int) (v : List Bool) : List Nat := if carE l run v = 0 then (List.range l.ws.length).filter (fun i => thruB l run.toNat i && inB l v i) else []
set_option maxRecDepth 100000 in
set_option maxHeartbeats 2000000 in
theorem in_any (i : Nat) (v : List Bool) (A : Option Addr) (q : Nat) (A0 A1 A2 A3 A4 A5 : Option Addr) (q0 q1 q2 q3 q4 q5 : Nat) (l : Lo) (w : World) (hs : SizedL l) (h : LoA w w.heap.size A0 A1 A2 A3 A4 A5 q0 q1 q2 q3 q4 q5 l) (hv : Bols w w.heap.size (.slice A v.length q) v) (hi : i < l.ws.length) (w60 : l.ws.length ≤ 60) :
    Calls Tryz.prog 102 #[.agg #[.slice A0 l.m.opts.length q0, .slice A1 l.m.rules.length q1, .slice A2 l.ss.length q2, .slice A3 l.us.length q3, .slice A4 l.ps.length q4, .slice A5 l.ws.length q5], .int .i64 i, .slice A v.length q] w fun e w' => e = .returned (.bool (inB l v i)) ∧ Below w.heap.size w w' := by
  have H := hide h
  have HV := hide hv
  have HSM := hide hs.m
  obtain ⟨bw, offw, x, Af, qf, HX, rfl, hbw, hq5, HFO, e0, e1, e2, e3, e4, e5, e6⟩ := h.wi hi
  have hfl : x.form.length ≤ maxLen := (hs.wn x (by rw [← HX.out]; exact getD_mem3f hi)).2
  have ii : (i : Int) < (l.ws.length : Int) := by omega
  have iq : (l.ws.length : Int) ≤ (q5 : Int) := by omega
  have hr : inB l v i = holB l.m x.form v := by unfold inB; rw [HX.out]
  rw [hr]
  clear h hv hs hr
  go_enter Tryz.func102, Tryz.ntmps102
  go_upto_region 1 with (fail)
  generalize hw0 : World.alloc _ _ = w0
  obtain ⟨hb0, hB0, hs0⟩ := alloc1 hw0
  have c0 := cellOf hb0 0; have c1 := cellOf hb0 1; have c2 := cellOf hb0 2; have c3 := cellOf hb0 3; have c4 := cellOf hb0 4; have c5 := cellOf hb0 5
  have hlb := box_lt hb0
  have HB0 := hide hB0
  have g6 := (hB0.cell (p := ⟨bw, offw + i * 7 + 6, none⟩) hbw).trans e6
  have lbw : bw < w0.heap.size := by omega
  have HH0 := hide (H.out.up hB0)
  have HF0 := hide (Ints.up HFO.out hB0)
  have HV0 := hide (Sl.up HV.out hB0)
  clear hw0 hb0 hB0 hs0 e0 e1 e2 e3 e4 e5 e6
  refine wp_region_held_drew (S := (fun w' => Below w0.heap.size w0 w')) (by kernel_rfl) ?_ (fun hHeld => ?_)
  · try dsimp only
    exact (by repeat (first | exact Below.refl _ _ | assumption | refine Below.drew ?_ | refine Below.drewN ?_ _ | refine Below.allocT ?_ (Nat.le_refl _) _ | refine Below.setCell ?_ (by simp <;> omega) _ | refine Below.to ?_ (by assumption) (Nat.le_refl _)))
  refine zT 0 rfl ?_
  try simp only [zX]
  refine zT 1 rfl ?_
  try simp only [zX]
  refine zT 2 rfl ?_
  try simp only [zX]
  refine zT 3 rfl ?_
  try simp only [zX]
  refine zT 4 rfl ?_
  try simp only [zX]
  refine zT 5 rfl ?_
  try simp only [zX]
  refine zT 6 rfl ?_
  try simp only [zX]
  refine zT 7 rfl ?_
  try simp only [zX]
  refine zT 8 rfl ?_
  try simp only [zX]
  refine wpAnyH_ready (rs := [9]) (by kernel_rfl) (by simp) ?_
  refine AllReadyH.cons rfl (fun K hK => ?_) AllReadyH.nil
  go_simp
  ((go_at_call 37; refine (Holds_any l.m x.form v _ _ _ _ _ HSM.out hfl (HH0.out.up (by repeat (first | exact Below.refl _ _ | assumption | refine Below.drew ?_ | refine Below.drewN ?_ _ | refine Below.allocT ?_ (Nat.le_refl _) _ | refine Below.setCell ?_ (by simp <;> omega) _ | refine Below.to ?_ (by assumption) (Nat.le_refl _)))).m (HF0.out.up (by repeat (first | exact Below.refl _ _ | assumption | refine Below.drew ?_ | refine Below.drewN ?_ _ | refine Below.allocT ?_ (Nat.le_refl _) _ | refine Below.setCell ?_ (by simp <;> omega) _ | refine Below.to ?_ (by assumption) (Nat.le_refl _)))) (Sl.up HV0.out (by repeat (first | exact Below.refl _ _ | assumption | refine Below.drew ?_ | refine Below.drewN ?_ _ | refine Below.allocT ?_ (Nat.le_refl _) _ | refine Below.setCell ?_ (by simp <;> omega) _ | refine Below.to ?_ (by assumption) (Nat.le_refl _))))).mono ?_; rintro e w5 ⟨rfl, hB5⟩))
  (try dsimp only)
  refine hK.out _ _ ?_ (fun hNext => ?_)
  · try dsimp only
    exact (by repeat (first | exact Below.refl _ _ | assumption | refine Below.drew ?_ | refine Below.drewN ?_ _ | refine Below.allocT ?_ (Nat.le_refl _) _ | refine Below.setCell ?_ (by simp <;> omega) _ | refine Below.to ?_ (by assumption) (Nat.le_refl _)))
  clear hK K hHeld
  have hHeld := hNext
  clear hNext
  (try dsimp only at hHeld)
  try simp only [zX]
  refine zT 10 rfl ?_
  try simp only [zX]
  refine zT 11 rfl ?_
  try simp only [zX]
  refine zT 12 rfl ?_
  try simp only [zX]
  refine zT 13 rfl ?_
  try simp only [zX]
  refine zT 14 rfl ?_
  try simp only [zX]
  refine wpAnyH_done (by kernel_rfl) ?_ _
  go_wp2_with fail
  go_ret
  exact ⟨rfl, Below.to HB0.out hHeld (Nat.le_refl _)⟩
end Go.Proofs.YtehadoecnmfeoaaGreat
/- The example of the laws: walk. -/
namespace Go.Proofs.YtehadoecnmfeoaaGreat
open Go.RowKit
set_option linter.unusedVariables false
set_option linter.unusedSimpArgs false
def exL : Lo := ⟨⟨[⟨#[116, 111, 119]⟩, ⟨#[104, 101, 97, 116]⟩], []⟩, [⟨0, 0, 0⟩, ⟨100, 0, 0⟩, ⟨100, 50, 0⟩, ⟨200, 0, 0⟩], [⟨0, 1, 110, 5⟩, ⟨1, 2, 50, 3⟩, ⟨1, 3, 100, 3⟩],
  [⟨⟨#[97]⟩, 0, 2⟩, ⟨⟨#[98]⟩, 2, 2⟩, ⟨⟨#[99]⟩, 3, 2⟩], [⟨⟨#[120]⟩, 0, 0, 1, 0, 2, [0]⟩, ⟨⟨#[121]⟩, 0, 1, 2, 0, 2, [1]⟩, ⟨⟨#[122]⟩, 0, 0, 2, 1, 1, [1]⟩]⟩
def allocs (w : World) : List Obj → World
  | [] => w
  | o :: r => allocs (w.alloc o) r
theorem allocs_below (w : World) (B : Nat) (hB : B ≤ w.heap.size) : ∀ os : List Obj, Below B w (allocs w os)
  | [] => Below.refl _ _
  | o :: r => ((Below.refl B w).alloc hB o).trans (allocs_below (w.alloc o) B (by simp; omega) r)
theorem allocs_get (w : World) : ∀ (os : List Obj) (i : Nat), i < os.length → (allocs w os).heap[w.heap.size + i]? = os[i]?
  | o :: r, 0, _ => by
    show (allocs (w.alloc o) r).heap[w.heap.size]? = some o
    exact ((allocs_below (w.alloc o) (w.heap.size + 1) (by simp) r).block _ (by omega)).trans (heap_alloc_new w o)
  | o :: r, i + 1, h => by
    have := allocs_get (w.alloc o) r i (by simpa using h)
    show (allocs (w.alloc o) r).heap[w.heap.size + (i + 1)]? = r[i]?
    rw [← this]
    congr 1
    simp
    omega
end Go.Proofs.YtehadoecnmfeoaaGreat
/- Carried, both: walks. -/
namespace Go.Proofs.YtehadoecnmfeoaaGreat
open Go.RowKit
set_option linter.unusedVariables false
set_option linter.unusedSimpArgs false
end Go.Proofs.YtehadoecnmfeoaaGreat
/- The program's search for a way: its lists and what its closure has captured. -/
namespace Go.Proofs.YtehadoecnmfeoaaGreat
open Go.RowKit
set_option linter.unusedVariables false
set_option linter.unusedSimpArgs false
/-- The closure of the search, its lists and what it has captured; the blocks lie from n on. -/
structure WyAt (w0 w : World) (n : Nat) (A0 A1 A2 A3 A4 A5 : Option Addr) (q0 q1 q2 q3 q4 q5 : Nat) (l : Lo) (b : Nat) (sv rv : Value) (S R : List Nat) : Prop where
  below : Below n w0 w
  box : LoBox w n A0 A1 A2 A3 A4 A5 q0 q1 q2 q3 q4 q5 l
  tb : w.heap[n + 1]? = some (.cells #[.int .i64 b] 3 (0, 0))
  s : w.heap[n + 2]? = some (.cells #[sv] 45 (0, 0))
  r : w.heap[n + 3]? = some (.cells #[rv] 45 (0, 0))
  v : w.heap[n + 4]? = some (.cells #[.func (.func 251) #[] #[.pointer (some ⟨n + 2, 0, none⟩), .pointer (some ⟨n + 1, 0, none⟩), .pointer (some ⟨n, 0, none⟩), .pointer (some ⟨n + 3, 0, none⟩), .pointer (some ⟨n + 4, 0, none⟩)]] 161 (0, 0))
  sr : w.ownsRow (n + 5) 3 1 sv S.length (nvL S)
  rr : w.ownsRow (n + 5) 3 1 rv R.length (nvL R)
  ne : ∀ g, sv.ownBlock = some g → rv.ownBlock ≠ some g
  n0 : n = w0.heap.size
section
variable {w0 w w' : World} {n b : Nat} {A0 A1 A2 A3 A4 A5 : Option Addr} {q0 q1 q2 q3 q4 q5 : Nat} {l : Lo} {sv rv v1 : Value} {S R : List Nat} {o : Obj} {a : Nat}
theorem WyAt.size (h : WyAt w0 w n A0 A1 A2 A3 A4 A5 q0 q1 q2 q3 q4 q5 l b sv rv S R) : n + 5 ≤ w.heap.size := by
  have := box_lt h.v
  omega
theorem WyAt.up (h : WyAt w0 w n A0 A1 A2 A3 A4 A5 q0 q1 q2 q3 q4 q5 l b sv rv S R) (hb : Below w.heap.size w w') : WyAt w0 w' n A0 A1 A2 A3 A4 A5 q0 q1 q2 q3 q4 q5 l b sv rv S R :=
  ⟨Below.to h.below hb (by have := h.size; have := h.n0; omega), box_to h.box hb, box_to h.tb hb, box_to h.s hb, box_to h.r hb, box_to h.v hb, owns_below h.sr hb, owns_below h.rr hb, h.ne, h.n0⟩
theorem WyAt.snoS (h : WyAt w0 w n A0 A1 A2 A3 A4 A5 q0 q1 q2 q3 q4 q5 l b sv rv S R) (hown : w'.ownsRow (n + 5) 3 1 v1 (S.length + 1) (nvL S ++ [.int .i64 a])) (hg : (w.alloc o).grownBy w' sv.ownBlock) (hat : v1.ownBlock = sv.ownBlock ∨ v1.ownBlock = some (w.alloc o).heap.size) :
    WyAt w0 (w'.setCell ⟨n + 2, 0, none⟩ v1) n A0 A1 A2 A3 A4 A5 q0 q1 q2 q3 q4 q5 l b v1 rv (S ++ [a]) R := by
  have hz := h.size
  have hk : ∀ k, k < w.heap.size → sv.ownBlock ≠ some k → k ≠ n + 2 → (w'.setCell ⟨n + 2, 0, none⟩ v1).heap[k]? = w.heap[k]? := fun k h1 h2 h3 =>
    (Below.heap_setCell _ _ _ _ h3).trans ((hg.block k (by simp; omega) (fun e => h2 e.symm)).trans (Below.heap_alloc _ _ _ h1))
  have hlow : ∀ k, k < n + 5 → sv.ownBlock ≠ some k := fun k h1 h2 => by have := (h.sr.lt k h2).1; omega
  have hs : w'.heap[n + 2]? = some (.cells #[sv] 45 (0, 0)) := (hg.block (n + 2) (by simp; omega) (fun e => hlow _ (by omega) e.symm)).trans ((Below.heap_alloc _ _ _ (by omega)).trans h.s)
  have hv1 : ∀ k, v1.ownBlock = some k → n + 5 ≤ k := fun k h1 => (hown.lt k h1).1
  refine ⟨?_, (hk n (by omega) (hlow _ (by omega)) (by omega)).trans h.box, (hk (n + 1) (by omega) (hlow _ (by omega)) (by omega)).trans h.tb, setCellOf hs v1, (hk (n + 3) (by omega) (hlow _ (by omega)) (by omega)).trans h.r, (hk (n + 4) (by omega) (hlow _ (by omega)) (by omega)).trans h.v, ?_, ?_, ?_, h.n0⟩
  · exact Below.setCell (Below.grown (h.below.alloc (by omega) o) hg (by simp; omega) (fun k h1 => by have := (h.sr.lt k h1).1; omega)) (by show n ≤ n + 2; omega) v1
  · rw [List.length_append, List.length_singleton, nvL_snoc]
    exact ownsRow_same hown fun k h1 => Below.heap_setCell _ _ _ _ (by have := hv1 k h1; show k ≠ n + 2; omega)
  · exact ownsRow_same h.rr fun k h1 => hk k (h.rr.lt k h1).2 (fun e => h.ne k e h1) (by have := (h.rr.lt k h1).1; omega)
  · intro g h1 h2
    rcases hat with e | e
    · exact h.ne g (by rw [← e]; exact h1) h2
    · rw [e] at h1
      injection h1 with h1
      have := (h.rr.lt g h2).2
      simp at h1
      omega
theorem WyAt.snoR (h : WyAt w0 w n A0 A1 A2 A3 A4 A5 q0 q1 q2 q3 q4 q5 l b sv rv S R) (hown : w'.ownsRow (n + 5) 3 1 v1 (R.length + 1) (nvL R ++ [.int .i64 a])) (hg : (w.alloc o).grownBy w' rv.ownBlock) (hat : v1.ownBlock = rv.ownBlock ∨ v1.ownBlock = some (w.alloc o).heap.size) :
    WyAt w0 (w'.setCell ⟨n + 3, 0, none⟩ v1) n A0 A1 A2 A3 A4 A5 q0 q1 q2 q3 q4 q5 l b sv v1 S (R ++ [a]) := by
  have hz := h.size
  have hk : ∀ k, k < w.heap.size → rv.ownBlock ≠ some k → k ≠ n + 3 → (w'.setCell ⟨n + 3, 0, none⟩ v1).heap[k]? = w.heap[k]? := fun k h1 h2 h3 =>
    (Below.heap_setCell _ _ _ _ h3).trans ((hg.block k (by simp; omega) (fun e => h2 e.symm)).trans (Below.heap_alloc _ _ _ h1))
  have hlow : ∀ k, k < n + 5 → rv.ownBlock ≠ some k := fun k h1 h2 => by have := (h.rr.lt k h2).1; omega
  have hs : w'.heap[n + 3]? = some (.cells #[rv] 45 (0, 0)) := (hg.block (n + 3) (by simp; omega) (fun e => hlow _ (by omega) e.symm)).trans ((Below.heap_alloc _ _ _ (by omega)).trans h.r)
  have hv1 : ∀ k, v1.ownBlock = some k → n + 5 ≤ k := fun k h1 => (hown.lt k h1).1
  refine ⟨?_, (hk n (by omega) (hlow _ (by omega)) (by omega)).trans h.box, (hk (n + 1) (by omega) (hlow _ (by omega)) (by omega)).trans h.tb, (hk (n + 2) (by omega) (hlow _ (by omega)) (by omega)).trans h.s, setCellOf hs v1, (hk (n + 4) (by omega) (hlow _ (by omega)) (by omega)).trans h.v, ?_, ?_, ?_, h.n0⟩
  · exact Below.setCell (Below.grown (h.below.alloc (by omega) o) hg (by simp; omega) (fun k h1 => by have := (h.rr.lt k h1).1; omega)) (by show n ≤ n + 3; omega) v1
  · exact ownsRow_same h.sr fun k h1 => hk k (h.sr.lt k h1).2 (fun e => h.ne k h1 e) (by have := (h.sr.lt k h1).1; omega)
  · rw [List.length_append, List.length_singleton, nvL_snoc]
    exact ownsRow_same hown fun k h1 => Below.heap_setCell _ _ _ _ (by have := hv1 k h1; show k ≠ n + 3; omega)
  · intro g h1 h2
    rcases hat with e | e
    · exact h.ne g h1 (by rw [← e]; exact h2)
    · rw [e] at h2
      injection h2 with h2
      have := (h.sr.lt g h1).2
      simp at h2
      omega
theorem WyAt.popS {A : Option Addr} {cap : Nat} (h : WyAt w0 w n A0 A1 A2 A3 A4 A5 q0 q1 q2 q3 q4 q5 l b (.slice A (S.length + 1) cap) rv (S ++ [a]) R) : WyAt w0 (w.setCell ⟨n + 2, 0, none⟩ (.slice A S.length cap)) n A0 A1 A2 A3 A4 A5 q0 q1 q2 q3 q4 q5 l b (.slice A S.length cap) rv S R := by
  have hz := h.size
  have hk : ∀ k, k ≠ n + 2 → (w.setCell ⟨n + 2, 0, none⟩ (.slice A S.length cap)).heap[k]? = w.heap[k]? := fun k h3 => Below.heap_setCell _ _ _ _ h3
  have hc := h.sr
  rw [List.length_append, List.length_singleton] at hc
  have hc := own_cut hc (r := S.length) (by omega)
  rw [nvL_take] at hc
  refine ⟨Below.setCell h.below (by show n ≤ n + 2; omega) _, (hk n (by omega)).trans h.box, (hk _ (by omega)).trans h.tb, setCellOf h.s _, (hk _ (by omega)).trans h.r, (hk _ (by omega)).trans h.v, ?_, ?_, fun g hg => h.ne g (by rw [own_block A _ S.length _ cap]; exact hg), h.n0⟩
  · exact ownsRow_same hc fun k h1 => hk k (by have := (hc.lt k h1).1; omega)
  · exact ownsRow_same h.rr fun k h1 => hk k (by have := (h.rr.lt k h1).1; omega)
theorem WyAt.popR {A : Option Addr} {cap : Nat} (h : WyAt w0 w n A0 A1 A2 A3 A4 A5 q0 q1 q2 q3 q4 q5 l b sv (.slice A (R.length + 1) cap) S (R ++ [a])) : WyAt w0 (w.setCell ⟨n + 3, 0, none⟩ (.slice A R.length cap)) n A0 A1 A2 A3 A4 A5 q0 q1 q2 q3 q4 q5 l b sv (.slice A R.length cap) S R := by
  have hz := h.size
  have hk : ∀ k, k ≠ n + 3 → (w.setCell ⟨n + 3, 0, none⟩ (.slice A R.length cap)).heap[k]? = w.heap[k]? := fun k h3 => Below.heap_setCell _ _ _ _ h3
  have hc := h.rr
  rw [List.length_append, List.length_singleton] at hc
  have hc := own_cut hc (r := R.length) (by omega)
  rw [nvL_take] at hc
  refine ⟨Below.setCell h.below (by show n ≤ n + 3; omega) _, (hk n (by omega)).trans h.box, (hk _ (by omega)).trans h.tb, (hk _ (by omega)).trans h.s, setCellOf h.r _, (hk _ (by omega)).trans h.v, ?_, ?_, fun g hg => by rw [own_block A _ (R.length + 1) _ cap]; exact h.ne g hg, h.n0⟩
  · exact ownsRow_same h.sr fun k h1 => hk k (by have := (h.sr.lt k h1).1; omega)
  · exact ownsRow_same hc fun k h1 => hk k (by have := (hc.lt k h1).1; omega)
end
end Go.Proofs.YtehadoecnmfeoaaGreat

/- Part 33 of this claim's texts: walks and plain laws. -/
import Derived.Test.YtmabfnddedffoaaRows
import Derived.Test.YtmabfnddedffoaaGLV29
import Derived.Test.YtmabfnddedffoaaGLV2
import Derived.Test.YtmabfnddedffoaaGLV24
import Derived.Deep.RegionHeld3
import Derived.Deep.DrawnRows
import Derived.Test.YtmabfnddedffoaaGLV3
/- A loom copied: walk. -/
namespace Go.Proofs.Ytmabfnddedffoaa
open Go.RowKit
set_option linter.unusedVariables false
set_option linter.unusedSimpArgs false
theorem infoSpot : (Try.prog.info? 97).map (fun i => (i.zero, i.size, i.bytes)) = some (some (.agg #[.int .i64 0, .int .i64 0, .int .i64 0]), 3, 24) := by kernel_rfl
theorem infoRun : (Try.prog.info? 85).map (fun i => (i.zero, i.size, i.bytes)) = some (some (.agg #[.int .i64 0, .int .i64 0, .int .i64 0, .int .i64 0]), 4, 32) := by kernel_rfl
theorem infoPlug : (Try.prog.info? 63).map (fun i => (i.zero, i.size, i.bytes)) = some (some (.agg #[.string ByteArray.empty, .int .i64 0, .int .i64 0]), 3, 32) := by kernel_rfl
theorem infoWire : (Try.prog.info? 68).map (fun i => (i.zero, i.size, i.bytes)) = some (some (.agg #[.string ByteArray.empty, .int .i64 0, .int .i64 0, .int .i64 0, .int .i64 0, .int .i64 0, .slice none 0 0]), 7, 80) := by kernel_rfl
theorem infoStr : (Try.prog.info? 9).map (fun i => (i.zero, i.size, i.bytes)) = some (some (.string ByteArray.empty), 1, 16) := by kernel_rfl
def spF (l : List Sp) (i j : Nat) : Value := spC (l.getD i Sp.o) j
def ruF (l : List Ru) (i j : Nat) : Value := ruC (l.getD i Ru.o) j
def plF (l : List Pl) (i j : Nat) : Value := plC (l.getD i Pl.o) j
def wiF (l : List Wi) (cv : Nat → Value) (i j : Nat) : Value := wiC (l.getD i Wi.o) (cv i) j
def nmF (l : List ByteArray) (i j : Nat) : Value := .string (l.getD i ByteArray.empty)
theorem flat_one6 {n sz : Nat} {f : Nat → Nat → Value} (hsz : 0 < sz) (h : ∀ i j, i < n → j < sz → (f i j).oneCell' = true) : ∀ u ∈ flat n sz f, u.oneCell' = true := by
  intro u hu
  obtain ⟨m, hm⟩ := List.mem_iff_getElem?.1 hu
  obtain ⟨i, j, hi, hj, _, rfl⟩ := flat_inv hsz hm
  exact h i j hi hj
theorem spF_one (l : List Sp) (i j : Nat) : (spF l i j).oneCell' = true := by
  unfold spF spC
  split <;> rfl
theorem ruF_one (l : List Ru) (i j : Nat) : (ruF l i j).oneCell' = true := by
  unfold ruF ruC
  split <;> rfl
theorem plF_one (l : List Pl) (i j : Nat) : (plF l i j).oneCell' = true := by
  unfold plF plC
  split <;> rfl
theorem wiF_one {w : World} {B : Nat} {l : List Wi} {cv : Nat → Value} (h : ∀ i, i < l.length → Ints w B (cv i) (l.getD i Wi.o).form) {i : Nat} (hi : i < l.length) (j : Nat) : (wiF l cv i j).oneCell' = true := by
  obtain ⟨A, q, e⟩ := Sl.form (h i hi)
  unfold wiF wiC
  rw [e]
  split <;> rfl
theorem set6 {w wz : World} {p t : Nat} {a0 a1 a2 a3 a4 a5 b0 b1 b2 b3 b4 b5 : Value} (h : w.heap[p]? = some (.cells #[a0, a1, a2, a3, a4, a5] t (0, 0)))
    (hz : (((((w.setCell ⟨p, 0, none⟩ b0).setCell ⟨p, 1, none⟩ b1).setCell ⟨p, 2, none⟩ b2).setCell ⟨p, 3, none⟩ b3).setCell ⟨p, 4, none⟩ b4).setCell ⟨p, 5, none⟩ b5 = wz) : wz.heap[p]? = some (.cells #[b0, b1, b2, b3, b4, b5] t (0, 0)) ∧ w.grownBy wz (some p) := by
  subst hz
  refine ⟨setCellOf (setCellOf (setCellOf (setCellOf (setCellOf (setCellOf h _) _) _) _) _) _, ?_⟩
  refine only_setCell (only_setCell (only_setCell (only_setCell (only_setCell (only_setCell (only_refl _ _) ?_ _) ?_ _) ?_ _) ?_ _) ?_ _) ?_ _
  all_goals exact .inl rfl
theorem set2 {w wz : World} {p t : Nat} {a0 a1 a2 a3 a4 a5 b0 b1 : Value} (h : w.heap[p]? = some (.cells #[a0, a1, a2, a3, a4, a5] t (0, 0)))
    (hz : (w.setCell ⟨p, 0, none⟩ b0).setCell ⟨p, 1, none⟩ b1 = wz) : wz.heap[p]? = some (.cells #[b0, b1, a2, a3, a4, a5] t (0, 0)) ∧ w.grownBy wz (some p) := by
  subst hz
  refine ⟨setCellOf (setCellOf h _) _, ?_⟩
  refine only_setCell (only_setCell (only_refl _ _) ?_ _) ?_ _
  all_goals exact .inl rfl
theorem far_rules {l : Lo} (h : farB l = false) : ∀ f ∈ l.m.rules, f.length ≤ 40 := by
  intro f hf
  unfold farB at h
  simp only [Bool.or_eq_false_iff] at h
  have := List.any_eq_false.1 h.1.1.1.2 f hf
  simpa using this
theorem far_forms {l : Lo} (h : farB l = false) : ∀ x ∈ l.ws, x.form.length ≤ 40 := by
  intro x hx
  unfold farB at h
  simp only [Bool.or_eq_false_iff] at h
  have := List.any_eq_false.1 h.2 x hx
  unfold farW at this
  simp at this
  omega
theorem flat_ext {n sz : Nat} {f : Nat → Nat → Value} {xs : List Value} (hsz : 0 < sz) (hl : xs.length = n * sz) (h : ∀ i j, i < n → j < sz → xs[i * sz + j]? = some (f i j)) : xs = flat n sz f := by
  apply List.ext_getElem?
  intro m
  rcases Nat.lt_or_ge m (n * sz) with h1 | h1
  · have h2 : (flat n sz f)[m]? = some ((flat n sz f)[m]'(by rw [flat_length]; exact h1)) := List.getElem?_eq_getElem _
    obtain ⟨i, j, hi, hj, rfl, hu⟩ := flat_inv hsz h2
    rw [h i j hi hj, flat_get hi hj]
  · rw [List.getElem?_eq_none (by omega), List.getElem?_eq_none (by rw [flat_length]; exact h1)]
theorem flat_set {n sz k j0 : Nat} {f g : Nat → Nat → Value} {u : Value} (hsz : 0 < sz) (hk : k < n) (hj : j0 < sz) (hu : g k j0 = u) (hg : ∀ i j, i < n → j < sz → (i ≠ k ∨ j ≠ j0) → g i j = f i j) : (flat n sz f).set (k * sz + j0) u = flat n sz g := by
  refine flat_ext hsz (by rw [List.length_set, flat_length]) fun i j hi hjj => ?_
  by_cases he : i = k ∧ j = j0
  · obtain ⟨rfl, rfl⟩ := he
    rw [List.getElem?_set_self (by rw [flat_length]; exact idx_lt hi hjj), hu]
  · have hne : k * sz + j0 ≠ i * sz + j := by
      intro e
      have h1 : (k * sz + j0) / sz = k := by rw [Nat.mul_comm, Nat.mul_add_div hsz, Nat.div_eq_of_lt hj]; omega
      have h2 : (i * sz + j) / sz = i := by rw [Nat.mul_comm, Nat.mul_add_div hsz, Nat.div_eq_of_lt hjj]; omega
      rw [e, h2] at h1
      subst h1
      exact he ⟨rfl, by omega⟩
    rw [List.getElem?_set_ne hne, flat_get hi hjj, hg i j hi hjj (by omega)]
/-- Formulas in rows of their own. -/
structure FoO (wr : World) (B : Nat) (v : Value) (L : List (List Int)) (vs : List Value) : Prop where
  len : vs.length = L.length
  own : wr.ownsRow B 66 1 v L.length vs
  row : ∀ i, i < L.length → wr.ownsRow B 3 1 (vs.getD i undef) (L.getD i []).length ((L.getD i []).map (Value.int .i64))
theorem Ints.flat6' {w : World} {B : Nat} {v : Value} {l : List Int} (h : Ints w B v l) : ∀ A n q, v = .slice A n q → Reads w B 1 A l.length (l.map (Value.int .i64)) := by
  intro A n q e
  subst e
  exact h.flat6
theorem FoO.below {wr w' : World} {B : Nat} {v : Value} {L : List (List Int)} {vs : List Value} (h : FoO wr B v L vs) (hb : Below wr.heap.size wr w') : FoO w' B v L vs := ⟨h.len, owns_below h.own hb, fun i hi => owns_below (h.row i hi) hb⟩
theorem FoO.grown {wr w' : World} {B g t : Nat} {v : Value} {L : List (List Int)} {vs : List Value} {C : Array Value} (h : FoO wr B v L vs) (hg : wr.grownBy w' (some g)) (ht : wr.heap[g]? = some (.cells C t (0, 0))) (h1 : 66 ≠ t) (h2 : 3 ≠ t) : FoO w' B v L vs := ⟨h.len, owns_grown h.own hg ht h1, fun i hi => owns_grown (h.row i hi) hg ht h2⟩
theorem FoO.forms {wr : World} {B : Nat} {v : Value} {L : List (List Int)} {vs : List Value} (h : FoO wr B v L vs) : Forms wr wr.heap.size v L := by
  refine ⟨fun i => vs.getD i undef, Sl.of_owns h.own fun i j hi hj => ?_, fun i hi => ints_own6 (h.row i hi)⟩
  obtain rfl : j = 0 := by omega
  have := h.len
  have hi2 : i < vs.length := by omega
  rw [Nat.mul_one, Nat.add_zero]
  simp [hi2]
/-- Numbers apart from some blocks. -/
def IntsX (w : World) (X : Nat → Prop) (v : Value) (f : List Int) : Prop :=
  ∃ (A : Option Addr) (b off cap : Nat), v = .slice A f.length cap ∧ f.length ≤ cap ∧ (A = some ⟨b, off, none⟩ ∧ b < w.heap.size ∧ ¬ X b ∨ f.length = 0) ∧ ∀ i, i < f.length → w.cell? ⟨b, off + i, none⟩ = some (.int .i64 (f.getD i 0))
theorem IntsX.ints {w : World} {X : Nat → Prop} {v : Value} {f : List Int} (h : IntsX w X v f) : Ints w w.heap.size v f := by
  obtain ⟨A, b, off, cap, h1, h2, h3, h4⟩ := h
  refine ⟨A, b, off, cap, h1, h2, h3.imp (fun ⟨a, c, _⟩ => ⟨a, c⟩) id, fun i j hi hj => ?_⟩
  obtain rfl : j = 0 := by omega
  rw [Nat.mul_one, Nat.add_zero]
  exact h4 i hi
theorem IntsX.of {w : World} {B : Nat} {X : Nat → Prop} {v : Value} {f : List Int} (h : Ints w B v f) (hB : B ≤ w.heap.size) (hg : ∀ b, X b → B ≤ b) : IntsX w X v f := by
  obtain ⟨A, b, off, cap, h1, h2, h3, h4⟩ := h
  refine ⟨A, b, off, cap, h1, h2, h3.imp (fun ⟨a, c⟩ => ⟨a, by omega, fun e => by have := hg b e; omega⟩) id, fun i hi => ?_⟩
  have := h4 i 0 hi (by omega)
  rwa [Nat.mul_one, Nat.add_zero] at this
theorem IntsX.keeps {w w' : World} {X : Nat → Prop} {row : Option Nat} {v : Value} {f : List Int} (h : IntsX w X v f) (hg : w.grownBy w' row) (hX : ∀ k, row = some k → X k) : IntsX w' X v f := by
  obtain ⟨A, b, off, cap, h1, h2, h3, h4⟩ := h
  refine ⟨A, b, off, cap, h1, h2, h3.imp (fun ⟨a, c, d⟩ => ⟨a, Nat.lt_of_lt_of_le c hg.size, d⟩) id, fun i hi => ?_⟩
  rcases h3 with ⟨_, hb, hne⟩ | h0
  · rw [World.cell?_of_block (a := ⟨b, off + i, none⟩) (hg.block b hb (fun e => hne (hX b e.symm)))]
    exact h4 i hi
  · omega
theorem IntsX.own {w : World} {base rb e sz n : Nat} {xs : List Value} {gv v : Value} {f : List Int} (h : w.ownsRow base 3 1 v f.length (f.map (Value.int .i64))) (hg : w.ownsRow base e sz gv n xs) (hne : 3 ≠ e) (hrb : rb < base) : IntsX w (fun b => b = rb ∨ gv.ownBlock = some b) v f := by
  have h0 := ints_own6 h
  have hlt := h.lt
  obtain ⟨A, b, off, cap, h1, h2, h3, h4⟩ := h0
  refine ⟨A, b, off, cap, h1, h2, h3.imp (fun ⟨a, c⟩ => ⟨a, c, fun q => ?_⟩) id, fun i hi => by have := h4 i 0 hi (by omega); rwa [Nat.mul_one, Nat.add_zero] at this⟩
  have hbb := (hlt b (by rw [h1, a]; rfl)).1
  rcases q with q | q
  · omega
  obtain ⟨_, ⟨h5, _⟩ | ⟨g', cp, cur, h5, _, h6, _⟩⟩ := hg
  · rw [h5] at q; cases q
  · rw [h5] at q
    injection q with q
    simp only at q
    subst q
    exact ownsNot h h6 hne (by rw [h1, a]; rfl)
/-- The copy while the wires' formulas are copied. -/
structure CpS (w0 wr : World) (rb p : Nat) (C0 C1 C2 C3 C4 C5 : Option Addr) (r0 r1 r2 r3 r4 r5 : Nat) (l : Lo) (cv : Nat → Value) (vs : List Value) : Prop where
  below : Below w0.heap.size w0 wr
  pw : w0.heap.size ≤ p
  box : wr.heap[p]? = some (.cells #[.slice C0 l.m.opts.length r0, .slice C1 l.m.rules.length r1, .slice C2 l.ss.length r2, .slice C3 l.us.length r3, .slice C4 l.ps.length r4, .slice C5 l.ws.length r5] 31 (0, 0))
  n : wr.ownsRow w0.heap.size 9 1 (.slice C0 l.m.opts.length r0) l.m.opts.length (flat l.m.opts.length 1 (nmF l.m.opts))
  f : FoO wr w0.heap.size (.slice C1 l.m.rules.length r1) l.m.rules vs
  s : wr.ownsRow w0.heap.size 97 3 (.slice C2 l.ss.length r2) l.ss.length (flat l.ss.length 3 (spF l.ss))
  u : wr.ownsRow w0.heap.size 85 4 (.slice C3 l.us.length r3) l.us.length (flat l.us.length 4 (ruF l.us))
  p : wr.ownsRow w0.heap.size 63 3 (.slice C4 l.ps.length r4) l.ps.length (flat l.ps.length 3 (plF l.ps))
  w : wr.ownsRow w0.heap.size 68 7 (.slice C5 l.ws.length r5) l.ws.length (flat l.ws.length 7 (wiF l.ws cv))
  x : ∀ i, i < l.ws.length → IntsX wr (fun b => b = rb ∨ (Value.slice C5 l.ws.length r5).ownBlock = some b) (cv i) (l.ws.getD i Wi.o).form
  rb : rb < w0.heap.size
theorem CpS.loom {w0 wr : World} {rb p : Nat} {C0 C1 C2 C3 C4 C5 : Option Addr} {r0 r1 r2 r3 r4 r5 : Nat} {l : Lo} {cv : Nat → Value} {vs : List Value} (h : CpS w0 wr rb p C0 C1 C2 C3 C4 C5 r0 r1 r2 r3 r4 r5 l cv vs) : LoA wr wr.heap.size C0 C1 C2 C3 C4 C5 r0 r1 r2 r3 r4 r5 l :=
  ⟨⟨Sl.of_owns h.n fun i j hi hj => (flat_get hi hj).trans rfl, h.f.forms⟩, Sl.of_owns h.s fun i j hi hj => flat_get hi hj, Sl.of_owns h.u fun i j hi hj => flat_get hi hj, Sl.of_owns h.p fun i j hi hj => flat_get hi hj, cv, Sl.of_owns h.w fun i j hi hj => flat_get hi hj, fun i hi => (h.x i hi).ints⟩
theorem CpS.loom' {w0 wr w' : World} {rb p : Nat} {C0 C1 C2 C3 C4 C5 : Option Addr} {r0 r1 r2 r3 r4 r5 : Nat} {l : Lo} {cv : Nat → Value} {vs : List Value} (h : CpS w0 wr rb p C0 C1 C2 C3 C4 C5 r0 r1 r2 r3 r4 r5 l cv vs) (hg : wr.grownBy w' (some rb)) : LoA w' w'.heap.size C0 C1 C2 C3 C4 C5 r0 r1 r2 r3 r4 r5 l := by
  have hk : ∀ {e sz n : Nat} {v : Value} {xs : List Value}, wr.ownsRow w0.heap.size e sz v n xs → w'.ownsRow w0.heap.size e sz v n xs := fun q => q.kept hg (.inr fun e => by have := (q.lt rb e).1; have := h.rb; omega)
  exact ⟨⟨Sl.of_owns (hk h.n) fun i j hi hj => (flat_get hi hj).trans rfl, FoO.forms ⟨h.f.len, hk h.f.own, fun i hi => hk (h.f.row i hi)⟩⟩, Sl.of_owns (hk h.s) fun i j hi hj => flat_get hi hj, Sl.of_owns (hk h.u) fun i j hi hj => flat_get hi hj, Sl.of_owns (hk h.p) fun i j hi hj => flat_get hi hj, cv, Sl.of_owns (hk h.w) fun i j hi hj => flat_get hi hj, fun i hi => ((h.x i hi).keeps hg (fun k hk => .inl (by injection hk with hk; exact hk.symm))).ints⟩
theorem CpS.to {w0 wr w' : World} {rb p : Nat} {C0 C1 C2 C3 C4 C5 : Option Addr} {r0 r1 r2 r3 r4 r5 : Nat} {l : Lo} {cv : Nat → Value} {vs : List Value} (h : CpS w0 wr rb p C0 C1 C2 C3 C4 C5 r0 r1 r2 r3 r4 r5 l cv vs) (hb : Below wr.heap.size wr w') : CpS w0 w' rb p C0 C1 C2 C3 C4 C5 r0 r1 r2 r3 r4 r5 l cv vs :=
  ⟨Below.to h.below hb (Nat.le_refl _), h.pw, heap_below h.box hb, owns_below h.n hb, h.f.below hb, owns_below h.s hb, owns_below h.u hb, owns_below h.p hb, owns_below h.w hb, fun i hi => (h.x i hi).keeps (grown_of_below (row := none) hb) (fun k hk => by cases hk), h.rb⟩
theorem CpS.store {w0 wr : World} {rb p g : Nat} {C0 C1 C2 C3 C4 : Option Addr} {r0 r1 r2 r3 r4 r5 : Nat} {l : Lo} {cv : Nat → Value} {vs : List Value} {k : Nat} {v : Value} (h : CpS w0 wr rb p C0 C1 C2 C3 C4 (some ⟨g, 0, none⟩) r0 r1 r2 r3 r4 r5 l cv vs) (hk : k < l.ws.length)
    (hv : wr.ownsRow w0.heap.size 3 1 v (l.ws.getD k Wi.o).form.length ((l.ws.getD k Wi.o).form.map (Value.int .i64))) : CpS w0 (wr.setCell ⟨g, k * 7 + 6, none⟩ v) rb p C0 C1 C2 C3 C4 (some ⟨g, 0, none⟩) r0 r1 r2 r3 r4 r5 l (fun i => if i = k then v else cv i) vs := by
  obtain ⟨cur, hgb, hgh⟩ : ∃ cur, w0.heap.size ≤ g ∧ wr.heap[g]? = some (.cells cur 68 (0, 0)) := by
    rcases h.w.2 with ⟨h1, _⟩ | ⟨g', cap, cur, h1, h2, h3, _⟩
    · cases h1
    · injection h1 with e1
      injection e1 with e1
      injection e1 with e1
      subst e1
      exact ⟨cur, h2, h3⟩
  obtain ⟨h1, hg⟩ := h.w.stored (k * 7 + 6) v
  have hp : p ≠ g := fun e => by
    have := h.box
    rw [e, hgh] at this
    injection this with this
    injection this with _ this
    exact absurd this (by decide)
  refine ⟨Below.setCell h.below hgb _, h.pw, (Below.heap_setCell _ _ _ _ hp).trans h.box, owns_grown h.n hg hgh (by decide), h.f.grown hg hgh (by decide) (by decide), owns_grown h.s hg hgh (by decide), owns_grown h.u hg hgh (by decide), owns_grown h.p hg hgh (by decide), ?_, fun i hi => ?_, h.rb⟩
  · rw [flat_set (g := wiF l.ws (fun i => if i = k then v else cv i)) (by omega) hk (by omega) (by unfold wiF wiC; simp) (fun i j hi hj hne => by
      unfold wiF wiC
      by_cases e : i = k
      · subst e
        have : j ≠ 6 := by omega
        match j, hj with
        | 0, _ => rfl
        | 1, _ => rfl
        | 2, _ => rfl
        | 3, _ => rfl
        | 4, _ => rfl
        | 5, _ => rfl
        | 6, _ => exact absurd rfl this
      · simp [e])] at h1
    exact h1
  · by_cases e : i = k
    · subst e
      have := (IntsX.own hv h.w (by decide) h.rb).keeps hg (fun k hk => .inr hk)
      simpa using this
    · have := (h.x i hi).keeps hg (fun k hk => .inr hk)
      simpa [e] using this
/-- What each operation of the copy's first statement leaves. -/
def copR (w0 : World) (l : Lo) (cv : Nat → Value) (j : Nat) (v : Value) (w : World) : Prop :=
  match j with
  | 0 => w0.heap.size ≤ w.heap.size ∧ ∃ g, v = .slice (some ⟨g, 0, none⟩) 0 0 ∧ w.ownsRow w0.heap.size 97 3 v 0 []
  | 4 => w0.heap.size ≤ w.heap.size ∧ ∃ g, v = .slice (some ⟨g, 0, none⟩) 0 0 ∧ w.ownsRow w0.heap.size 85 4 v 0 []
  | 8 => w0.heap.size ≤ w.heap.size ∧ ∃ g, v = .slice (some ⟨g, 0, none⟩) 0 0 ∧ w.ownsRow w0.heap.size 63 3 v 0 []
  | 12 => w0.heap.size ≤ w.heap.size ∧ ∃ g, v = .slice (some ⟨g, 0, none⟩) 0 0 ∧ w.ownsRow w0.heap.size 68 7 v 0 []
  | 3 => w.ownsRow w0.heap.size 97 3 v l.ss.length (flat l.ss.length 3 (spF l.ss))
  | 7 => w.ownsRow w0.heap.size 85 4 v l.us.length (flat l.us.length 4 (ruF l.us))
  | 11 => w.ownsRow w0.heap.size 63 3 v l.ps.length (flat l.ps.length 3 (plF l.ps))
  | 15 => w.ownsRow w0.heap.size 68 7 v l.ws.length (flat l.ws.length 7 (wiF l.ws cv))
  | 16 => ∃ a b c d, v = .agg #[.slice none 0 0, .slice none 0 0, a, b, c, d] ∧ w.ownsRow w0.heap.size 97 3 a l.ss.length (flat l.ss.length 3 (spF l.ss)) ∧ w.ownsRow w0.heap.size 85 4 b l.us.length (flat l.us.length 4 (ruF l.us)) ∧
      w.ownsRow w0.heap.size 63 3 c l.ps.length (flat l.ps.length 3 (plF l.ps)) ∧ w.ownsRow w0.heap.size 68 7 d l.ws.length (flat l.ws.length 7 (wiF l.ws cv))
  | 17 => ∃ p, v = .pointer (some ⟨p, 0, none⟩) ∧ w0.heap.size ≤ p ∧ w.heap[p]? = some (.cells #[.slice none 0 0, .slice none 0 0, .slice none 0 0, .slice none 0 0, .slice none 0 0, .slice none 0 0] 31 (0, 0))
  | _ => True
theorem copR_keep {w0 : World} {l : Lo} {cv : Nat → Value} (j : Nat) {v : Value} {w w' : World} (hb : Below w.heap.size w w') (h : copR w0 l cv j v w) : copR w0 l cv j v w' := by
  unfold copR at *
  split at h
  · obtain ⟨h0, g, h1, h2⟩ := h; exact ⟨Nat.le_trans h0 hb.size, g, h1, owns_below h2 hb⟩
  · obtain ⟨h0, g, h1, h2⟩ := h; exact ⟨Nat.le_trans h0 hb.size, g, h1, owns_below h2 hb⟩
  · obtain ⟨h0, g, h1, h2⟩ := h; exact ⟨Nat.le_trans h0 hb.size, g, h1, owns_below h2 hb⟩
  · obtain ⟨h0, g, h1, h2⟩ := h; exact ⟨Nat.le_trans h0 hb.size, g, h1, owns_below h2 hb⟩
  · exact owns_below h hb
  · exact owns_below h hb
  · exact owns_below h hb
  · exact owns_below h hb
  · obtain ⟨a, b, c, d, h1, h2, h3, h4, h5⟩ := h; exact ⟨a, b, c, d, h1, owns_below h2 hb, owns_below h3 hb, owns_below h4 hb, owns_below h5 hb⟩
  · obtain ⟨p, h1, h2, h3⟩ := h; exact ⟨p, h1, h2, heap_below h3 hb⟩
  · trivial
set_option maxRecDepth 100000 in
set_option maxHeartbeats 8000000 in
theorem Copy_any (A0 A1 A2 A3 A4 A5 : Option Addr) (q0 q1 q2 q3 q4 q5 : Nat) (l : Lo) (w : World) (hs : SizedL l) (hfar : farB l = false) (h : LoA w w.heap.size A0 A1 A2 A3 A4 A5 q0 q1 q2 q3 q4 q5 l) :
    Calls Try.prog 16 #[.agg #[.slice A0 l.m.opts.length q0, .slice A1 l.m.rules.length q1, .slice A2 l.ss.length q2, .slice A3 l.us.length q3, .slice A4 l.ps.length q4, .slice A5 l.ws.length q5]] w fun e w' => ∃ (C0 C1 C2 C3 C4 C5 : Option Addr) (r0 r1 r2 r3 r4 r5 : Nat), e = .returned (.agg #[.slice C0 l.m.opts.length r0, .slice C1 l.m.rules.length r1, .slice C2 l.ss.length r2, .slice C3 l.us.length r3, .slice C4 l.ps.length r4, .slice C5 l.ws.length r5]) ∧ LoA w' w'.heap.size C0 C1 C2 C3 C4 C5 r0 r1 r2 r3 r4 r5 l ∧ Below w.heap.size w w' := by
  obtain ⟨i0, hi0, hz0, hz1, hz2⟩ := info_parts infoSpot
  obtain ⟨i1, hi1, hy0, hy1, hy2⟩ := info_parts infoRun
  obtain ⟨i2, hi2, hx0, hx1, hx2⟩ := info_parts infoPlug
  obtain ⟨i3, hi3, hw0', hw1', hw2'⟩ := info_parts infoWire
  obtain ⟨i4, hi4, jz0, jz1, jz2⟩ := info_parts infoStr
  obtain ⟨i5, hi5, kz0, kz1, kz2⟩ := info_parts infoInt
  have hsm := far_small hfar
  obtain ⟨m0, m1, m2, m3, m4, m5⟩ := hsm
  obtain ⟨cv, hsl, hcy⟩ := h.w
  have HSL := hide hsl
  have HCY := hide hcy
  have H := hide h
  have HS := hide hs
  have HFAR := hide hfar
  clear h hs hsl hcy hfar
  go_enter Try.func16, Try.ntmps16
  go_upto_region 1 with (fail)
  generalize hw0 : World.alloc _ _ = w0
  obtain ⟨hb0, hb1, hB0, hs0⟩ := alloc2 hw0
  have HB0 := hide hB0
  have c0 := cellOf hb0 0; have c1 := cellOf hb0 1; have c2 := cellOf hb0 2; have c3 := cellOf hb0 3; have c4 := cellOf hb0 4; have c5 := cellOf hb0 5
  have hlb := box_lt hb0
  have HX0 : Hid (LoBox w0 w.heap.size A0 A1 A2 A3 A4 A5 q0 q1 q2 q3 q4 q5 l) := hb0
  have HR0 := hide hb1
  have HH := hide (H.out.up hB0)
  have HS0 : Hid (w.heap.size + 1 < w0.heap.size) := by show _ < _; omega
  clear hw0 hb0 hb1 hB0 hs0
  refine wp_region_held_drew (S := (fun w' => Below w0.heap.size w0 w')) (by kernel_rfl) ?_ (fun hHeld => ?_)
  · try dsimp only
    exact (by repeat (first | exact Below.refl _ _ | assumption | refine Below.drew ?_ | refine Below.drewN ?_ _ | refine Below.allocT ?_ (Nat.le_refl _) _ | refine Below.setCell ?_ (by simp <;> omega) _ | refine Below.to ?_ (by assumption) (Nat.le_refl _)))
  refine zT 1 rfl ?_
  try simp only [zX]
  refine zT 2 rfl ?_
  try simp only [zX]
  refine zT 5 rfl ?_
  try simp only [zX]
  refine zT 6 rfl ?_
  try simp only [zX]
  refine zT 9 rfl ?_
  try simp only [zX]
  refine zT 10 rfl ?_
  try simp only [zX]
  refine zT 13 rfl ?_
  try simp only [zX]
  refine zT 14 rfl ?_
  try simp only [zX]
  refine wpAnyH_start [0, 3, 4, 7, 8, 11, 12, 15, 16, 17] (fun j => match j with | 0 => 5 | 3 => 8 | 4 => 9 | 7 => 12 | 8 => 13 | 11 => 16 | 12 => 17 | 15 => 20 | 16 => 21 | 17 => 3 | _ => 0) (copR w0 l cv) 1 rfl (by kernel_rfl) (by kernel_rfl) (by decide) (by decide) (by kernel_rfl) hHeld ?hkeep ?hstep ?hend
  case hkeep => exact fun j _ v w w' hb h => copR_keep j hb h
  case hstep =>
    intro j hj tv w5 hS hd
    have hsz0 : w0.heap.size ≤ w5.heap.size := hS.size
    simp only [List.mem_cons, List.not_mem_nil, or_false] at hj
    rcases hj with rfl | rfl | rfl | rfl | rfl | rfl | rfl | rfl | rfl | rfl
    · refine wpOp_step rfl (fun K hK => ?_)
      generalize hax : putAll _ _ tv _ = ax at hK ⊢
      simp only [putAll, Act.put, List.setIfInBounds_toArray, List.set_cons_zero, List.set_cons_succ] at hax
      rw [← hax]
      go_simp
      exact hK _ _ ⟨⟨_, by rw [← hax]; rfl, by simp; omega, _, rfl, World.ownsRow_made w5 #[] 0 hsz0 (by unfold maxLen; omega) rfl⟩, (by repeat (first | exact Below.refl _ _ | assumption | refine Below.drew ?_ | refine Below.drewN ?_ _ | refine Below.allocT ?_ (Nat.le_refl _) _ | refine Below.setCell ?_ (by simp <;> omega) _ | refine Below.to ?_ (by assumption) (Nat.le_refl _))), (by repeat (first | exact Below.refl _ _ | assumption | refine Below.drew ?_ | refine Below.drewN ?_ _ | refine Below.allocT ?_ (Nat.le_refl _) _ | refine Below.setCell ?_ (by simp <;> omega) _ | refine Below.to ?_ (by assumption) (Nat.le_refl _)))⟩
    · obtain ⟨_, g, hg, hown⟩ := hd 0 (by decide) (by kernel_rfl)
      rw [hg] at hown
      refine wpOp_step rfl (fun K hK => ?_)
      generalize hax : putAll _ _ tv _ = ax at hK ⊢
      simp only [putAll, Act.put, List.setIfInBounds_toArray, List.set_cons_zero, List.set_cons_succ] at hax
      have evs : ax.eval (.tmp 5) = .slice (some ⟨g, 0, none⟩) 0 0 := by rw [← hax]; exact hg
      have ex := congrArg (fun a => Act.eval a (.tmp 7)) hax.symm
      refine step_append_fresh _ (by rfl) (.tmp 5) (.tmp 7) _ (by rfl) w0.heap.size 97 i0 _ 3 24 Try.underlying26 hi0 hz0 hz1 hz2 (by rfl) (by omega) g evs hown w5.heap.size A2 l.ss.length q2 (flat l.ss.length 3 (spF l.ss)) ex (Sl.reads ((Sl.below H.out.s (Below.to HB0.out hS (Nat.le_refl _))).more (by have := HB0.out.size; omega)) (by omega)) (flat_one6 (by omega) (fun i j _ _ => spF_one l.ss i j)) (by unfold maxLen; omega) (by omega) hsz0 ?_
      intro v' w' hown' hB'
      exact hK _ _ ⟨⟨_, rfl, hown'⟩, hB', (by repeat (first | exact Below.refl _ _ | assumption | refine Below.drew ?_ | refine Below.drewN ?_ _ | refine Below.allocT ?_ (Nat.le_refl _) _ | refine Below.setCell ?_ (by simp <;> omega) _ | refine Below.to ?_ (by assumption) (Nat.le_refl _)))⟩
    · refine wpOp_step rfl (fun K hK => ?_)
      generalize hax : putAll _ _ tv _ = ax at hK ⊢
      simp only [putAll, Act.put, List.setIfInBounds_toArray, List.set_cons_zero, List.set_cons_succ] at hax
      rw [← hax]
      go_simp
      exact hK _ _ ⟨⟨_, by rw [← hax]; rfl, by simp; omega, _, rfl, World.ownsRow_made w5 #[] 0 hsz0 (by unfold maxLen; omega) rfl⟩, (by repeat (first | exact Below.refl _ _ | assumption | refine Below.drew ?_ | refine Below.drewN ?_ _ | refine Below.allocT ?_ (Nat.le_refl _) _ | refine Below.setCell ?_ (by simp <;> omega) _ | refine Below.to ?_ (by assumption) (Nat.le_refl _))), (by repeat (first | exact Below.refl _ _ | assumption | refine Below.drew ?_ | refine Below.drewN ?_ _ | refine Below.allocT ?_ (Nat.le_refl _) _ | refine Below.setCell ?_ (by simp <;> omega) _ | refine Below.to ?_ (by assumption) (Nat.le_refl _)))⟩
    · obtain ⟨_, g, hg, hown⟩ := hd 4 (by decide) (by kernel_rfl)
      rw [hg] at hown
      refine wpOp_step rfl (fun K hK => ?_)
      generalize hax : putAll _ _ tv _ = ax at hK ⊢
      simp only [putAll, Act.put, List.setIfInBounds_toArray, List.set_cons_zero, List.set_cons_succ] at hax
      have evs : ax.eval (.tmp 9) = .slice (some ⟨g, 0, none⟩) 0 0 := by rw [← hax]; exact hg
      have ex := congrArg (fun a => Act.eval a (.tmp 11)) hax.symm
      refine step_append_fresh _ (by rfl) (.tmp 9) (.tmp 11) _ (by rfl) w0.heap.size 85 i1 _ 4 32 Try.underlying27 hi1 hy0 hy1 hy2 (by rfl) (by omega) g evs hown w5.heap.size A3 l.us.length q3 (flat l.us.length 4 (ruF l.us)) ex (Sl.reads ((Sl.below H.out.u (Below.to HB0.out hS (Nat.le_refl _))).more (by have := HB0.out.size; omega)) (by omega)) (flat_one6 (by omega) (fun i j _ _ => ruF_one l.us i j)) (by unfold maxLen; omega) (by omega) hsz0 ?_
      intro v' w' hown' hB'
      exact hK _ _ ⟨⟨_, rfl, hown'⟩, hB', (by repeat (first | exact Below.refl _ _ | assumption | refine Below.drew ?_ | refine Below.drewN ?_ _ | refine Below.allocT ?_ (Nat.le_refl _) _ | refine Below.setCell ?_ (by simp <;> omega) _ | refine Below.to ?_ (by assumption) (Nat.le_refl _)))⟩
    · refine wpOp_step rfl (fun K hK => ?_)
      generalize hax : putAll _ _ tv _ = ax at hK ⊢
      simp only [putAll, Act.put, List.setIfInBounds_toArray, List.set_cons_zero, List.set_cons_succ] at hax
      rw [← hax]
      go_simp
      exact hK _ _ ⟨⟨_, by rw [← hax]; rfl, by simp; omega, _, rfl, World.ownsRow_made w5 #[] 0 hsz0 (by unfold maxLen; omega) rfl⟩, (by repeat (first | exact Below.refl _ _ | assumption | refine Below.drew ?_ | refine Below.drewN ?_ _ | refine Below.allocT ?_ (Nat.le_refl _) _ | refine Below.setCell ?_ (by simp <;> omega) _ | refine Below.to ?_ (by assumption) (Nat.le_refl _))), (by repeat (first | exact Below.refl _ _ | assumption | refine Below.drew ?_ | refine Below.drewN ?_ _ | refine Below.allocT ?_ (Nat.le_refl _) _ | refine Below.setCell ?_ (by simp <;> omega) _ | refine Below.to ?_ (by assumption) (Nat.le_refl _)))⟩
    · obtain ⟨_, g, hg, hown⟩ := hd 8 (by decide) (by kernel_rfl)
      rw [hg] at hown
      refine wpOp_step rfl (fun K hK => ?_)
      generalize hax : putAll _ _ tv _ = ax at hK ⊢
      simp only [putAll, Act.put, List.setIfInBounds_toArray, List.set_cons_zero, List.set_cons_succ] at hax
      have evs : ax.eval (.tmp 13) = .slice (some ⟨g, 0, none⟩) 0 0 := by rw [← hax]; exact hg
      have ex := congrArg (fun a => Act.eval a (.tmp 15)) hax.symm
      refine step_append_fresh _ (by rfl) (.tmp 13) (.tmp 15) _ (by rfl) w0.heap.size 63 i2 _ 3 32 Try.underlying28 hi2 hx0 hx1 hx2 (by rfl) (by omega) g evs hown w5.heap.size A4 l.ps.length q4 (flat l.ps.length 3 (plF l.ps)) ex (Sl.reads ((Sl.below H.out.p (Below.to HB0.out hS (Nat.le_refl _))).more (by have := HB0.out.size; omega)) (by omega)) (flat_one6 (by omega) (fun i j _ _ => plF_one l.ps i j)) (by unfold maxLen; omega) (by omega) hsz0 ?_
      intro v' w' hown' hB'
      exact hK _ _ ⟨⟨_, rfl, hown'⟩, hB', (by repeat (first | exact Below.refl _ _ | assumption | refine Below.drew ?_ | refine Below.drewN ?_ _ | refine Below.allocT ?_ (Nat.le_refl _) _ | refine Below.setCell ?_ (by simp <;> omega) _ | refine Below.to ?_ (by assumption) (Nat.le_refl _)))⟩
    · refine wpOp_step rfl (fun K hK => ?_)
      generalize hax : putAll _ _ tv _ = ax at hK ⊢
      simp only [putAll, Act.put, List.setIfInBounds_toArray, List.set_cons_zero, List.set_cons_succ] at hax
      rw [← hax]
      go_simp
      exact hK _ _ ⟨⟨_, by rw [← hax]; rfl, by simp; omega, _, rfl, World.ownsRow_made w5 #[] 0 hsz0 (by unfold maxLen; omega) rfl⟩, (by repeat (first | exact Below.refl _ _ | assumption | refine Below.drew ?_ | refine Below.drewN ?_ _ | refine Below.allocT ?_ (Nat.le_refl _) _ | refine Below.setCell ?_ (by simp <;> omega) _ | refine Below.to ?_ (by assumption) (Nat.le_refl _))), (by repeat (first | exact Below.refl _ _ | assumption | refine Below.drew ?_ | refine Below.drewN ?_ _ | refine Below.allocT ?_ (Nat.le_refl _) _ | refine Below.setCell ?_ (by simp <;> omega) _ | refine Below.to ?_ (by assumption) (Nat.le_refl _)))⟩
    · obtain ⟨_, g, hg, hown⟩ := hd 12 (by decide) (by kernel_rfl)
      rw [hg] at hown
      refine wpOp_step rfl (fun K hK => ?_)
      generalize hax : putAll _ _ tv _ = ax at hK ⊢
      simp only [putAll, Act.put, List.setIfInBounds_toArray, List.set_cons_zero, List.set_cons_succ] at hax
      have evs : ax.eval (.tmp 17) = .slice (some ⟨g, 0, none⟩) 0 0 := by rw [← hax]; exact hg
      have ex := congrArg (fun a => Act.eval a (.tmp 19)) hax.symm
      refine step_append_fresh _ (by rfl) (.tmp 17) (.tmp 19) _ (by rfl) w0.heap.size 68 i3 _ 7 80 Try.underlying29 hi3 hw0' hw1' hw2' (by rfl) (by omega) g evs hown w5.heap.size A5 l.ws.length q5 (flat l.ws.length 7 (wiF l.ws cv)) ex (Sl.reads ((Sl.below HSL.out (Below.to HB0.out hS (Nat.le_refl _))).more (by have := HB0.out.size; omega)) (by omega)) (flat_one6 (by omega) (fun i j hi _ => wiF_one HCY.out hi j)) (by unfold maxLen; omega) (by omega) hsz0 ?_
      intro v' w' hown' hB'
      exact hK _ _ ⟨⟨_, rfl, hown'⟩, hB', (by repeat (first | exact Below.refl _ _ | assumption | refine Below.drew ?_ | refine Below.drewN ?_ _ | refine Below.allocT ?_ (Nat.le_refl _) _ | refine Below.setCell ?_ (by simp <;> omega) _ | refine Below.to ?_ (by assumption) (Nat.le_refl _)))⟩
    · have h3 := hd 3 (by decide) (by kernel_rfl)
      have h7 := hd 7 (by decide) (by kernel_rfl)
      have h11 := hd 11 (by decide) (by kernel_rfl)
      have h15 := hd 15 (by decide) (by kernel_rfl)
      have HD := hide (And.intro h3 (And.intro h7 (And.intro h11 h15)))
      obtain ⟨B3, c3, e3⟩ := owns_form h3
      obtain ⟨B7, c7, e7⟩ := owns_form h7
      obtain ⟨B11, c11, e11⟩ := owns_form h11
      obtain ⟨B15, c15, e15⟩ := owns_form h15
      rw [e3, e7, e11, e15] at HD
      clear hd h3 h7 h11 h15
      refine wpOp_step rfl (fun K hK => ?_)
      generalize hax : putAll _ _ tv _ = ax at hK ⊢
      simp only [putAll, Act.put, List.setIfInBounds_toArray, List.set_cons_zero, List.set_cons_succ, e3, e7, e11, e15] at hax
      rw [← hax]
      go_simp
      exact hK _ _ ⟨⟨_, by rw [← hax]; rfl, _, _, _, _, rfl, HD.out.1, HD.out.2.1, HD.out.2.2.1, HD.out.2.2.2⟩, (by repeat (first | exact Below.refl _ _ | assumption | refine Below.drew ?_ | refine Below.drewN ?_ _ | refine Below.allocT ?_ (Nat.le_refl _) _ | refine Below.setCell ?_ (by simp <;> omega) _ | refine Below.to ?_ (by assumption) (Nat.le_refl _))), (by repeat (first | exact Below.refl _ _ | assumption | refine Below.drew ?_ | refine Below.drewN ?_ _ | refine Below.allocT ?_ (Nat.le_refl _) _ | refine Below.setCell ?_ (by simp <;> omega) _ | refine Below.to ?_ (by assumption) (Nat.le_refl _)))⟩
    · refine wpOp_step rfl (fun K hK => ?_)
      generalize hax : putAll _ _ tv _ = ax at hK ⊢
      simp only [putAll, Act.put, List.setIfInBounds_toArray, List.set_cons_zero, List.set_cons_succ] at hax
      rw [← hax]
      go_simp
      exact hK _ _ ⟨⟨_, by rw [← hax]; rfl, _, rfl, hsz0, heap_alloc_new _ _⟩, (by repeat (first | exact Below.refl _ _ | assumption | refine Below.drew ?_ | refine Below.drewN ?_ _ | refine Below.allocT ?_ (Nat.le_refl _) _ | refine Below.setCell ?_ (by simp <;> omega) _ | refine Below.to ?_ (by assumption) (Nat.le_refl _))), (by repeat (first | exact Below.refl _ _ | assumption | refine Below.drew ?_ | refine Below.drewN ?_ _ | refine Below.allocT ?_ (Nat.le_refl _) _ | refine Below.setCell ?_ (by simp <;> omega) _ | refine Below.to ?_ (by assumption) (Nat.le_refl _)))⟩
  case hend =>
    intro tv w5 hS hR
    obtain ⟨a, b, c, d, h16, ha, hb, hc, hd⟩ := hR 16 (by decide)
    obtain ⟨p, h17, hp, hpb⟩ := hR 17 (by decide)
    clear hR
    obtain ⟨B2, p2, rfl⟩ := owns_form ha
    obtain ⟨B3, p3, rfl⟩ := owns_form hb
    obtain ⟨B4, p4, rfl⟩ := owns_form hc
    obtain ⟨B5, p5, rfl⟩ := owns_form hd
    have x0 : w5.cell? ⟨p, 0, none⟩ = _ := cellOf hpb 0
    have x1 : w5.cell? ⟨p, 1, none⟩ = _ := cellOf hpb 1
    have x2 : w5.cell? ⟨p, 2, none⟩ = _ := cellOf hpb 2
    have x3 : w5.cell? ⟨p, 3, none⟩ = _ := cellOf hpb 3
    have x4 : w5.cell? ⟨p, 4, none⟩ = _ := cellOf hpb 4
    have x5 : w5.cell? ⟨p, 5, none⟩ = _ := cellOf hpb 5
    have y0 := unfrozenOf hpb 0
    have y1 := unfrozenOf hpb 1
    have y2 := unfrozenOf hpb 2
    have y3 := unfrozenOf hpb 3
    have y4 := unfrozenOf hpb 4
    have y5 := unfrozenOf hpb 5
    have HA := hide ha
    have HB := hide hb
    have HC := hide hc
    have HD := hide hd
    have HP := hide hpb
    have HS5 := hide hS
    have hlp := box_lt hpb
    clear ha hb hc hd hpb
    simp only [putAll, Act.put, List.setIfInBounds_toArray, List.set_cons_zero, List.set_cons_succ, h16, h17]
    refine wpAnyH_ready (rs := [18]) (by kernel_rfl) (by simp) ?_
    refine AllReadyH.cons rfl (fun K hK => ?_) AllReadyH.nil
    go_simp
    generalize hwz : World.setCell _ _ _ = wz
    obtain ⟨hz, hgr⟩ := set6 HP.out hwz
    have hSz : Below w0.heap.size w0 wz := Below.grown HS5.out hgr HS5.out.size (fun j hj => by injection hj with hj; omega)
    have HZ := hide hz
    have HSZ := hide hSz
    have HAZ := hide (owns_grown HA.out hgr HP.out (by decide))
    have HBZ := hide (owns_grown HB.out hgr HP.out (by decide))
    have HCZ := hide (owns_grown HC.out hgr HP.out (by decide))
    have HDZ := hide (owns_grown HD.out hgr HP.out (by decide))
    clear hwz hz hgr x0 x1 x2 x3 x4 x5 y0 y1 y2 y3 y4 y5 hlp h16 h17 HA HB HC HD HP HS5 hS
    refine hK.out _ _ hSz (fun hNext => ?_)
    clear hK K hNext hSz
    refine wpAnyH_done (by kernel_rfl) ?_ _
    go_upto_region 2 with (fail)
    have c0 := cellOf (HX0.out.to HSZ.out) 0; have c1 := cellOf (HX0.out.to HSZ.out) 1; have c2 := cellOf (HX0.out.to HSZ.out) 2; have c3 := cellOf (HX0.out.to HSZ.out) 3; have c4 := cellOf (HX0.out.to HSZ.out) 4; have c5 := cellOf (HX0.out.to HSZ.out) 5
    have hlz := box_lt (HX0.out.to HSZ.out)
    have HHZ := hide (HH.out.up HSZ.out)
    have hpz := box_lt HZ.out
    have hw0z : w0.heap.size ≤ wz.heap.size := HSZ.out.size
    have hnp : ¬ w.heap.size = p := by omega
    have hfar := far_rules HFAR.out
    have HFR := hide hfar
    have z0 : wz.cell? ⟨p, 0, none⟩ = _ := cellOf HZ.out 0
    have z1 : wz.cell? ⟨p, 1, none⟩ = _ := cellOf HZ.out 1
    clear hfar
    refine wp_region_held_drew (S := (fun w' => Keeps (fun k => k = p ∨ k = p) wz w')) (by kernel_rfl) ?_ (fun hHeld => ?_)
    · try dsimp only
      (repeat (first | (with_reducible exact Keeps.refl _ _) | exact hKeep.out | exact hKeepS.out _ | assumption | (with_reducible refine Keeps.drew ?_) | (with_reducible refine Keeps.drewN ?_ _) | (with_reducible refine Keeps.alloc ?_ _) | (with_reducible refine Keeps.setCell ?_ (.inl (by first | exact .inl rfl | exact .inr rfl)) _)))
    refine zU 1 rfl ?_
    try simp only [zX]
    refine zU 2 rfl ?_
    try simp only [zX]
    refine zU 3 rfl ?_
    try simp only [zX]
    refine zU 5 rfl ?_
    try simp only [zX]
    refine zU 6 rfl ?_
    try simp only [zX]
    refine zU 7 rfl ?_
    try simp only [zX]
    refine wpAnyH_ready (rs := [0]) (by kernel_rfl) (by simp) ?_
    refine (AllReadyH.cons rfl (fun K hK => ?_) AllReadyH.nil)
    go_simp
    refine hK.out _ _ ?_ (fun hNext => ?_)
    · try dsimp only
      (repeat (first | (with_reducible exact Keeps.refl _ _) | exact hKeep.out | exact hKeepS.out _ | assumption | (with_reducible refine Keeps.drew ?_) | (with_reducible refine Keeps.drewN ?_ _) | (with_reducible refine Keeps.alloc ?_ _) | (with_reducible refine Keeps.setCell ?_ (.inl (by first | exact .inl rfl | exact .inr rfl)) _)))
    clear hK K hHeld
    have hHeld := hNext
    clear hNext
    (try dsimp only at hHeld)
    try simp only [zX]
    refine wpAnyH_ready (rs := [4]) (by kernel_rfl) (by simp) ?_
    refine (AllReadyH.cons rfl (fun K hK => ?_) AllReadyH.nil)
    (refine step_append_fresh _ (by rfl) (.tmp 22) (.tmp 25) _ (by rfl) w0.heap.size 9 i4 _ 1 16 Try.underlying22 hi4 jz0 jz1 jz2 (by rfl) (by omega) wz.heap.size (by rfl) (World.ownsRow_made _ #[] 0 (by first | omega | (simp; omega)) (by unfold maxLen; omega) rfl) wz.heap.size A0 l.m.opts.length q0 (flat l.m.opts.length 1 (nmF l.m.opts)) (by rfl) (Reads.alloc (Sl.reads HHZ.out.m.o (by omega)) (by simp) _) (flat_one6 (by omega) (fun i j _ _ => rfl)) (by unfold maxLen; omega) (by omega) (by simp; omega) ?_; intro v6 w6 hown6 hB6; obtain ⟨B0, p0, hv6⟩ := owns_form hown6; subst hv6; have hN1 : Below wz.heap.size wz w6 := (by repeat (first | exact Below.refl _ _ | assumption | refine Below.drew ?_ | refine Below.drewN ?_ _ | refine Below.allocT ?_ (Nat.le_refl _) _ | refine Below.setCell ?_ (by simp <;> omega) _ | refine Below.to ?_ (by assumption) (Nat.le_refl _))); have HN1 := hide (And.intro hN1 hown6); have hKeep : Hid (Keeps (fun k => k = p ∨ k = p) wz w6) := Keeps.of_below hN1; clear hN1 hown6)
    (try dsimp only)
    refine hK.out _ _ ?_ (fun hNext => ?_)
    · try dsimp only
      (repeat (first | (with_reducible exact Keeps.refl _ _) | exact hKeep.out | exact hKeepS.out _ | assumption | (with_reducible refine Keeps.drew ?_) | (with_reducible refine Keeps.drewN ?_ _) | (with_reducible refine Keeps.alloc ?_ _) | (with_reducible refine Keeps.setCell ?_ (.inl (by first | exact .inl rfl | exact .inr rfl)) _)))
    clear hK K hHeld
    have hHeld := hNext
    clear hNext
    (try dsimp only at hHeld)
    try simp only [zX]
    refine wpAnyH_ready (rs := [8]) (by kernel_rfl) (by simp) ?_
    refine (AllReadyH.cons rfl (fun K hK => ?_) AllReadyH.nil)
    go_simp
    ((go_at_call 51; refine (copyForms_any l.m.rules A1 q1 _ (by omega) (fun f hf => Nat.le_trans (HFR.out f hf) (by omega)) (Forms.up HHZ.out.m.r HN1.out.1)).mono ?_; rintro e w7 ⟨v7, vs, rfl, hF7⟩; obtain ⟨B1, p1, hv7⟩ := owns_form hF7.own; subst hv7; have HF7 := hide hF7; have hB7 := hF7.below; have HN2 := hide (owns_below HN1.out.2 hB7); have HW7 := hide (Below.to HN1.out.1 hB7 (Nat.le_refl _)); clear hKeep; have hKeep : Hid (Keeps (fun k => k = p ∨ k = p) wz w7) := Keeps.of_below HW7.out; have hb7 := heap_below HZ.out HW7.out; have s0 := cellOf hb7 0; have s1 := cellOf hb7 1; have u0 := unfrozenOf hb7 0; have u1 := unfrozenOf hb7 1; have HP7 := hide hb7; clear hb7 hB7 hF7))
    (try dsimp only)
    refine hK.out _ _ ?_ (fun hNext => ?_)
    · try dsimp only
      (repeat (first | (with_reducible exact Keeps.refl _ _) | exact hKeep.out | exact hKeepS.out _ | assumption | (with_reducible refine Keeps.drew ?_) | (with_reducible refine Keeps.drewN ?_ _) | (with_reducible refine Keeps.alloc ?_ _) | (with_reducible refine Keeps.setCell ?_ (.inl (by first | exact .inl rfl | exact .inr rfl)) _)))
    clear hK K hHeld
    have hHeld := hNext
    clear hNext
    (try dsimp only at hHeld)
    try simp only [zX]
    refine zU 9 rfl ?_
    try simp only [zX]
    refine zU 10 rfl ?_
    try simp only [zX]
    refine wpAnyH_ready (rs := [11]) (by kernel_rfl) (by simp) ?_
    refine (AllReadyH.cons rfl (fun K hK => ?_) AllReadyH.nil)
    go_simp
    refine hK.out _ _ ?_ (fun hNext => ?_)
    · try dsimp only
      (repeat (first | (with_reducible exact Keeps.refl _ _) | exact hKeep.out | exact hKeepS.out _ | assumption | (with_reducible refine Keeps.drew ?_) | (with_reducible refine Keeps.drewN ?_ _) | (with_reducible refine Keeps.alloc ?_ _) | (with_reducible refine Keeps.setCell ?_ (.inl (by first | exact .inl rfl | exact .inr rfl)) _)))
    clear hK K hHeld
    have hHeld := hNext
    clear hNext
    (try dsimp only at hHeld)
    try simp only [zX]
    refine wpAnyH_done (by kernel_rfl) ?_ _
    generalize hwy : World.setCell _ _ _ = wy at hHeld ⊢
    obtain ⟨hy, hgy⟩ := set2 HP7.out hwy
    have hB7 := HW7.out
    have hF7 : FoO w7 w0.heap.size (.slice B1 l.m.rules.length p1) l.m.rules vs := ⟨HF7.out.len, owns_base HF7.out.own (Nat.le_trans hw0z HN1.out.1.size), fun i hi => owns_base (HF7.out.row i hi) (Nat.le_trans hw0z HN1.out.1.size)⟩
    have hwy7 : Below w0.heap.size w0 wy := Below.grown (Below.to HSZ.out hB7 (Nat.le_refl _)) hgy (by have := hB7.size; omega) (fun j hj => by injection hj with hj; omega)
    have hwz0 := HSZ.out
    have hdr := owns_grown (owns_below HDZ.out hB7) hgy HP7.out (by decide)
    have hcp : CpS w0 wy (w.heap.size + 1) p B0 B1 B2 B3 B4 B5 p0 p1 p2 p3 p4 p5 l cv vs := by
      refine ⟨hwy7, hp, hy, owns_grown HN2.out hgy HP7.out (by decide), hF7.grown hgy HP7.out (by decide) (by decide), owns_grown (owns_below HAZ.out hB7) hgy HP7.out (by decide), owns_grown (owns_below HBZ.out hB7) hgy HP7.out (by decide),
        owns_grown (owns_below HCZ.out hB7) hgy HP7.out (by decide), hdr, fun i hi => ?_, HS0.out⟩
      refine IntsX.of (Sl.below (HCY.out i hi) (Below.to HB0.out hwy7 (Nat.le_refl _))) (by have := HB0.out.size; have := hwy7.size; omega) (fun b hb => by
        rcases hb with hb | hb
        · omega
        · have := (hdr.lt b hb).1; have := HB0.out.size; omega)
    have HCP := hide hcp
    clear hwy hy hgy hB7 hF7 hwy7 hwz0 hdr hcp c0 c1 c2 c3 c4 c5 z0 z1 s0 s1 u0 u1 hHeld hlz hpz
    go_upto_region 3 with (fail)
    go_wp2_with fail
    go_loopw [4] (fun i wr => ∃ (k : Nat) (cv : Nat → Value), i = .int .i64 k ∧ k ≤ l.ws.length ∧ Hid (CpS w0 wr (w.heap.size + 1) p B0 B1 B2 B3 B4 B5 p0 p1 p2 p3 p4 p5 l cv vs)) (fun i _ => l.ws.length - (intOf i).toNat)
    case atStart => exact ⟨0, cv, rfl, Nat.zero_le _, HCP.out⟩
    case round =>
      obtain ⟨k, cw, rfl, hk, R⟩ := hrel
      have x0 : wr.cell? ⟨p, 0, none⟩ = _ := cellOf R.out.box 0
      have x1 : wr.cell? ⟨p, 1, none⟩ = _ := cellOf R.out.box 1
      have x2 : wr.cell? ⟨p, 2, none⟩ = _ := cellOf R.out.box 2
      have x3 : wr.cell? ⟨p, 3, none⟩ = _ := cellOf R.out.box 3
      have x4 : wr.cell? ⟨p, 4, none⟩ = _ := cellOf R.out.box 4
      have x5 : wr.cell? ⟨p, 5, none⟩ = _ := cellOf R.out.box 5
      have lp := box_lt R.out.box
      by_cases hkl : k < l.ws.length
      · obtain ⟨g, cap, cur, hv, hgb, hgh, hnc, hcm, hcs, htk⟩ : ∃ g cap cur, Value.slice B5 l.ws.length p5 = .slice (some ⟨g, 0, none⟩) l.ws.length cap ∧ w0.heap.size ≤ g ∧ wr.heap[g]? = some (.cells cur 68 (0, 0)) ∧ l.ws.length ≤ cap ∧ cap ≤ maxLen ∧ cur.size = cap * 7 ∧ cur.toList.take (l.ws.length * 7) = flat l.ws.length 7 (wiF l.ws cw) := by
          rcases R.out.w.2 with ⟨_, h0⟩ | h
          · omega
          · exact h
        injection hv with e1 e2 e3
        subst e1 e3
        have hcx := R.out.x k hkl
        have hfl := far_forms HFAR.out (l.ws.getD k Wi.o) (getD_mem3f hkl)
        obtain ⟨f, hfe⟩ : ∃ f, (l.ws.getD k Wi.o).form = f := ⟨_, rfl⟩
        rw [hfe] at hcx hfl
        obtain ⟨Af, qf, ev⟩ := Sl.form hcx.ints
        have g6 : wr.cell? ⟨g, k * 7 + 6, none⟩ = some (.slice Af f.length qf) := by
          rw [R.out.w.cellAt (k * 7 + 6) (idx_lt hkl (by omega)), flat_get hkl (by omega)]
          show some (cw k) = _
          rw [ev]
        have fz := R.out.w.frozenAt (k * 7 + 6)
        have HCX := hide (hcx.ints.flat6' _ _ _ ev)
        have hgp : ¬ p = g := fun e => by
          subst e
          have := R.out.box.symm.trans hgh
          injection this with this
          injection this with _ this
          exact absurd this (by decide)
        have hlg := box_lt hgh
        have ik0 : (0 : Int) ≤ (k : Int) := by omega
        have ik : (k : Int) < (l.ws.length : Int) := by omega
        have HFE := hide hfe
        have HGH := hide hgh
        have HAV := hide ev
        clear hcx ev hfe hgh htk hcs
        go_wp2_with fail
        refine wp_region_held_drew (S := (fun w' => Keeps (fun j => j = g ∨ j = g) wr w')) (by kernel_rfl) ?_ (fun hHeld => ?_)
        · try dsimp only
          (repeat (first | (with_reducible exact Keeps.refl _ _) | exact hKeep.out | exact hKeepS.out _ | assumption | (with_reducible refine Keeps.drew ?_) | (with_reducible refine Keeps.drewN ?_ _) | (with_reducible refine Keeps.alloc ?_ _) | (with_reducible refine Keeps.setCell ?_ (.inl (by first | exact .inl rfl | exact .inr rfl)) _)))
        refine zU 0 rfl ?_
        try simp only [zX]
        refine zU 1 rfl ?_
        try simp only [zX]
        refine zU 2 rfl ?_
        try simp only [zX]
        refine zU 4 rfl ?_
        try simp only [zX]
        refine zU 5 rfl ?_
        try simp only [zX]
        refine zU 6 rfl ?_
        try simp only [zX]
        refine zU 7 rfl ?_
        try simp only [zX]
        refine zU 8 rfl ?_
        try simp only [zX]
        refine wpAnyH_ready (rs := [3, 9]) (by kernel_rfl) (by simp) ?_
        refine (AllReadyH.cons rfl (fun K hK => ?o2_9_3) (AllReadyH.cons rfl (fun K hK => ?o2_9_9) AllReadyH.nil))
        case' o2_9_3 =>
          go_simp
          refine hK.out _ _ ?_ (fun hNext => ?_)
          · try dsimp only
            (repeat (first | (with_reducible exact Keeps.refl _ _) | exact hKeep.out | exact hKeepS.out _ | assumption | (with_reducible refine Keeps.drew ?_) | (with_reducible refine Keeps.drewN ?_ _) | (with_reducible refine Keeps.alloc ?_ _) | (with_reducible refine Keeps.setCell ?_ (.inl (by first | exact .inl rfl | exact .inr rfl)) _)))
          clear hK K hHeld
          have hHeld := hNext
          clear hNext
          (try dsimp only at hHeld)
          try simp only [zX]
          refine wpAnyH_ready (rs := [9]) (by kernel_rfl) (by simp) ?_
          refine (AllReadyH.cons rfl (fun K hK => ?_) AllReadyH.nil)
          go_simp
          refine hK.out _ _ ?_ (fun hNext => ?_)
          · try dsimp only
            (repeat (first | (with_reducible exact Keeps.refl _ _) | exact hKeep.out | exact hKeepS.out _ | assumption | (with_reducible refine Keeps.drew ?_) | (with_reducible refine Keeps.drewN ?_ _) | (with_reducible refine Keeps.alloc ?_ _) | (with_reducible refine Keeps.setCell ?_ (.inl (by first | exact .inl rfl | exact .inr rfl)) _)))
          clear hK K hHeld
          have hHeld := hNext
          clear hNext
          (try dsimp only at hHeld)
          try simp only [zX]
          refine wpAnyH_ready (rs := [10]) (by kernel_rfl) (by simp) ?_
          refine (AllReadyH.cons rfl (fun K hK => ?_) AllReadyH.nil)
          (refine step_append_fresh _ (by rfl) (.tmp 43) (.tmp 49) _ (by rfl) w0.heap.size 3 i5 _ 1 8 Try.underlying66 hi5 kz0 kz1 kz2 (by rfl) (by omega) wr.heap.size (by rfl) (World.ownsRow_made _ #[] 0 (by have := R.out.below.size; first | omega | (simp; omega)) (by unfold maxLen; omega) rfl) wr.heap.size Af f.length qf (f.map (Value.int .i64)) (by rfl) (Reads.below HCX.out (by repeat (first | exact Below.refl _ _ | assumption | refine Below.drew ?_ | refine Below.drewN ?_ _ | refine Below.allocT ?_ (Nat.le_refl _) _ | refine Below.setCell ?_ (by simp <;> omega) _ | refine Below.to ?_ (by assumption) (Nat.le_refl _)))) one_ints6 (by unfold maxLen; omega) (by omega) (by have := R.out.below.size; simp; omega) ?_; intro v6 w6 hown6 hB6; obtain ⟨B6, p6, hv6⟩ := owns_form hown6; subst hv6; have hN1 : Below wr.heap.size wr w6 := (by repeat (first | exact Below.refl _ _ | assumption | refine Below.drew ?_ | refine Below.drewN ?_ _ | refine Below.allocT ?_ (Nat.le_refl _) _ | refine Below.setCell ?_ (by simp <;> omega) _ | refine Below.to ?_ (by assumption) (Nat.le_refl _))); have HB6 := hide hN1; have HO6 := hide hown6; have hKeep : Hid (Keeps (fun j => j = g ∨ j = g) wr w6) := Keeps.of_below hN1; have hg6 := heap_below HGH.out hN1; have s6 : w6.cell? ⟨g, k * 7 + 6, none⟩ = _ := (hN1.cell (p := ⟨g, k * 7 + 6, none⟩) hlg).trans g6; have u6 := unfrozenOf hg6 (k * 7 + 6); clear hN1 hown6 hg6)
          (try dsimp only)
          refine hK.out _ _ ?_ (fun hNext => ?_)
          · try dsimp only
            (repeat (first | (with_reducible exact Keeps.refl _ _) | exact hKeep.out | exact hKeepS.out _ | assumption | (with_reducible refine Keeps.drew ?_) | (with_reducible refine Keeps.drewN ?_ _) | (with_reducible refine Keeps.alloc ?_ _) | (with_reducible refine Keeps.setCell ?_ (.inl (by first | exact .inl rfl | exact .inr rfl)) _)))
          clear hK K hHeld
          have hHeld := hNext
          clear hNext
          (try dsimp only at hHeld)
          try simp only [zX]
          refine zU 11 rfl ?_
          try simp only [zX]
          refine zU 12 rfl ?_
          try simp only [zX]
          refine wpAnyH_ready (rs := [13]) (by kernel_rfl) (by simp) ?_
          refine (AllReadyH.cons rfl (fun K hK => ?_) AllReadyH.nil)
          go_simp
          refine hK.out _ _ ?_ (fun hNext => ?_)
          · try dsimp only
            (repeat (first | (with_reducible exact Keeps.refl _ _) | exact hKeep.out | exact hKeepS.out _ | assumption | (with_reducible refine Keeps.drew ?_) | (with_reducible refine Keeps.drewN ?_ _) | (with_reducible refine Keeps.alloc ?_ _) | (with_reducible refine Keeps.setCell ?_ (.inl (by first | exact .inl rfl | exact .inr rfl)) _)))
          clear hK K hHeld
          have hHeld := hNext
          clear hNext
          (try dsimp only at hHeld)
          try simp only [zX]
          refine wpAnyH_done (by kernel_rfl) ?_ _
        case' o2_9_9 =>
          go_simp
          refine hK.out _ _ ?_ (fun hNext => ?_)
          · try dsimp only
            (repeat (first | (with_reducible exact Keeps.refl _ _) | exact hKeep.out | exact hKeepS.out _ | assumption | (with_reducible refine Keeps.drew ?_) | (with_reducible refine Keeps.drewN ?_ _) | (with_reducible refine Keeps.alloc ?_ _) | (with_reducible refine Keeps.setCell ?_ (.inl (by first | exact .inl rfl | exact .inr rfl)) _)))
          clear hK K hHeld
          have hHeld := hNext
          clear hNext
          (try dsimp only at hHeld)
          try simp only [zX]
          refine wpAnyH_ready (rs := [3]) (by kernel_rfl) (by simp) ?_
          refine (AllReadyH.cons rfl (fun K hK => ?_) AllReadyH.nil)
          go_simp
          refine hK.out _ _ ?_ (fun hNext => ?_)
          · try dsimp only
            (repeat (first | (with_reducible exact Keeps.refl _ _) | exact hKeep.out | exact hKeepS.out _ | assumption | (with_reducible refine Keeps.drew ?_) | (with_reducible refine Keeps.drewN ?_ _) | (with_reducible refine Keeps.alloc ?_ _) | (with_reducible refine Keeps.setCell ?_ (.inl (by first | exact .inl rfl | exact .inr rfl)) _)))
          clear hK K hHeld
          have hHeld := hNext
          clear hNext
          (try dsimp only at hHeld)
          try simp only [zX]
          refine wpAnyH_ready (rs := [10]) (by kernel_rfl) (by simp) ?_
          refine (AllReadyH.cons rfl (fun K hK => ?_) AllReadyH.nil)
          (refine step_append_fresh _ (by rfl) (.tmp 43) (.tmp 49) _ (by rfl) w0.heap.size 3 i5 _ 1 8 Try.underlying66 hi5 kz0 kz1 kz2 (by rfl) (by omega) wr.heap.size (by rfl) (World.ownsRow_made _ #[] 0 (by have := R.out.below.size; first | omega | (simp; omega)) (by unfold maxLen; omega) rfl) wr.heap.size Af f.length qf (f.map (Value.int .i64)) (by rfl) (Reads.below HCX.out (by repeat (first | exact Below.refl _ _ | assumption | refine Below.drew ?_ | refine Below.drewN ?_ _ | refine Below.allocT ?_ (Nat.le_refl _) _ | refine Below.setCell ?_ (by simp <;> omega) _ | refine Below.to ?_ (by assumption) (Nat.le_refl _)))) one_ints6 (by unfold maxLen; omega) (by omega) (by have := R.out.below.size; simp; omega) ?_; intro v6 w6 hown6 hB6; obtain ⟨B6, p6, hv6⟩ := owns_form hown6; subst hv6; have hN1 : Below wr.heap.size wr w6 := (by repeat (first | exact Below.refl _ _ | assumption | refine Below.drew ?_ | refine Below.drewN ?_ _ | refine Below.allocT ?_ (Nat.le_refl _) _ | refine Below.setCell ?_ (by simp <;> omega) _ | refine Below.to ?_ (by assumption) (Nat.le_refl _))); have HB6 := hide hN1; have HO6 := hide hown6; have hKeep : Hid (Keeps (fun j => j = g ∨ j = g) wr w6) := Keeps.of_below hN1; have hg6 := heap_below HGH.out hN1; have s6 : w6.cell? ⟨g, k * 7 + 6, none⟩ = _ := (hN1.cell (p := ⟨g, k * 7 + 6, none⟩) hlg).trans g6; have u6 := unfrozenOf hg6 (k * 7 + 6); clear hN1 hown6 hg6)
          (try dsimp only)
          refine hK.out _ _ ?_ (fun hNext => ?_)
          · try dsimp only
            (repeat (first | (with_reducible exact Keeps.refl _ _) | exact hKeep.out | exact hKeepS.out _ | assumption | (with_reducible refine Keeps.drew ?_) | (with_reducible refine Keeps.drewN ?_ _) | (with_reducible refine Keeps.alloc ?_ _) | (with_reducible refine Keeps.setCell ?_ (.inl (by first | exact .inl rfl | exact .inr rfl)) _)))
          clear hK K hHeld
          have hHeld := hNext
          clear hNext
          (try dsimp only at hHeld)
          try simp only [zX]
          refine zU 11 rfl ?_
          try simp only [zX]
          refine zU 12 rfl ?_
          try simp only [zX]
          refine wpAnyH_ready (rs := [13]) (by kernel_rfl) (by simp) ?_
          refine (AllReadyH.cons rfl (fun K hK => ?_) AllReadyH.nil)
          go_simp
          refine hK.out _ _ ?_ (fun hNext => ?_)
          · try dsimp only
            (repeat (first | (with_reducible exact Keeps.refl _ _) | exact hKeep.out | exact hKeepS.out _ | assumption | (with_reducible refine Keeps.drew ?_) | (with_reducible refine Keeps.drewN ?_ _) | (with_reducible refine Keeps.alloc ?_ _) | (with_reducible refine Keeps.setCell ?_ (.inl (by first | exact .inl rfl | exact .inr rfl)) _)))
          clear hK K hHeld
          have hHeld := hNext
          clear hNext
          (try dsimp only at hHeld)
          try simp only [zX]
          refine wpAnyH_done (by kernel_rfl) ?_ _
        all_goals
          generalize hwy : World.setCell _ _ _ = wy at hHeld ⊢
          have hst := CpS.store (R.out.to HB6.out) hkl (v := .slice B6 f.length p6) (by rw [HFE.out]; exact HO6.out)
          rw [hwy] at hst
          have HST := hide hst
          clear hwy hst s6 u6 hHeld x0 x1 x2 x3 x4 x5
          go_wp2_with fail
          go_roundw
          case rel => exact ⟨k + 1, _, by go_num, by omega, HST.out⟩
          case measure => simp [intOf]; omega
      · have hke : k = l.ws.length := by omega
        subst hke
        have hBF := Below.to HB0.out R.out.below (Nat.le_refl _)
        have HBF := hide hBF
        have hrb := (R.out.below.block _ (box_lt HR0.out)).trans HR0.out
        have y0 := cellOf hrb 0
        have y1 := cellOf hrb 1
        have y2 := cellOf hrb 2
        have y3 := cellOf hrb 3
        have y4 := cellOf hrb 4
        have y5 := cellOf hrb 5
        have v0 := unfrozenOf hrb 0
        have v1 := unfrozenOf hrb 1
        have v2 := unfrozenOf hrb 2
        have v3 := unfrozenOf hrb 3
        have v4 := unfrozenOf hrb 4
        have v5 := unfrozenOf hrb 5
        have lr := box_lt hrb
        have HRB := hide hrb
        have hwl : w.heap.size < w0.heap.size := hlb
        clear hBF hrb
        go_wp2_with fail
        generalize hwv : World.setCell _ _ _ = wv
        obtain ⟨hv, hgv⟩ := set6 HRB.out hwv
        have hlo := R.out.loom' hgv
        have hBv : Below w.heap.size w wv := Below.grown HBF.out hgv HBF.out.size (fun j hj => by injection hj with hj; omega)
        have HLV := hide hlo
        have HBV := hide hBv
        have t0 := cellOf hv 0
        have t1 := cellOf hv 1
        have t2 := cellOf hv 2
        have t3 := cellOf hv 3
        have t4 := cellOf hv 4
        have t5 := cellOf hv 5
        have lv := box_lt hv
        clear hwv hv hgv hlo hBv x0 x1 x2 x3 x4 x5 y0 y1 y2 y3 y4 y5 v0 v1 v2 v3 v4 v5
        refine bodyPost_ret (v := .agg #[.slice B0 l.m.opts.length p0, .slice B1 l.m.rules.length p1, .slice B2 l.ss.length p2, .slice B3 l.us.length p3, .slice B4 l.ps.length p4, .slice B5 l.ws.length p5]) ?_ rfl ⟨_, _, _, _, _, _, _, _, _, _, _, _, rfl, HLV.out, HBV.out⟩
        rw [results_cell1 rfl]
        go_simp
end Go.Proofs.Ytmabfnddedffoaa

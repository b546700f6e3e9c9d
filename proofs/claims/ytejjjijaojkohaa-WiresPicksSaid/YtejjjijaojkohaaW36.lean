/- A wiring copied: a walk. -/
import Derived.Test.YtejjjijaojkohaaRows
import Derived.Test.YtejjjijaojkohaaW32
import Derived.Test.YtejjjijaojkohaaW33
import Derived.Deep.CutRange
import Derived.Deep.DrawnRows
namespace Go.Proofs.Ytejjjijaojkohaa
open Go.RowKit
set_option linter.unusedVariables false
set_option linter.unusedSimpArgs false
attribute [local go_sem ↓] Go.wp_at_zero Go.wp_at_succ

theorem infoFe : (Try.prog.info? 74).map (fun i => (i.zero, i.size, i.bytes)) = some (some (.agg #[.int .i64 0, .int .i64 0, .int .i64 0, .slice none 0 0, .int .i64 0, .int .i64 0, .int .i64 0]), 7, 72) := by kernel_rfl
theorem flat_one' {n sz : Nat} {f : Nat → Nat → Value} (hsz : 0 < sz) (h : ∀ i j, i < n → j < sz → (f i j).oneCell' = true) : ∀ u ∈ flat n sz f, u.oneCell' = true := by
  intro u hu
  obtain ⟨m, hm⟩ := List.mem_iff_getElem?.1 hu
  obtain ⟨i, j, hi, hj, _, rfl⟩ := flat_inv hsz hm
  exact h i j hi hj

/-- A cycle apart from block g. -/
def CycX (w : World) (g x : Nat) (v : Value) (cs : List Cu) : Prop :=
  ∃ (A : Option Addr) (b off cap : Nat), v = .slice A cs.length cap ∧ cs.length ≤ cap ∧ (A = some ⟨b, off, none⟩ ∧ b < w.heap.size ∧ b ≠ g ∧ b ≠ x ∨ cs.length = 0) ∧ ∀ i j, i < cs.length → j < 2 → w.cell? ⟨b, off + (i * 2 + j), none⟩ = some (cyF cs i j)
theorem CycX.cyc {w : World} {g x : Nat} {v : Value} {cs : List Cu} (h : CycX w g x v cs) : Cyc w w.heap.size v cs := by
  obtain ⟨A, b, off, cap, hv, hn, hA, hc⟩ := h
  exact ⟨A, b, off, cap, hv, hn, hA.imp (fun ⟨a, c, _⟩ => ⟨a, c⟩) id, hc⟩
theorem CycX.of {w : World} {B g x : Nat} {v : Value} {cs : List Cu} (h : Cyc w B v cs) (hB : B ≤ w.heap.size) (hg : B ≤ g) (hx : B ≤ x) : CycX w g x v cs := by
  obtain ⟨A, b, off, cap, hv, hn, hA, hc⟩ := h
  exact ⟨A, b, off, cap, hv, hn, hA.imp (fun ⟨a, c⟩ => ⟨a, by omega, by omega, by omega⟩) id, hc⟩
theorem CycX.grown {w w' : World} {g x : Nat} {v : Value} {cs : List Cu} (h : CycX w g x v cs) (hg : w.grownBy w' (some g)) : CycX w' g x v cs := by
  obtain ⟨A, b, off, cap, hv, hn, hA, hc⟩ := h
  refine ⟨A, b, off, cap, hv, hn, hA.imp (fun ⟨a, c, d⟩ => ⟨a, Nat.lt_of_lt_of_le c hg.size, d⟩) id, fun i j hi hj => ?_⟩
  rcases hA with ⟨_, hb, hne, _⟩ | h0
  · rw [gcell hg b _ hb hne]; exact hc i j hi hj
  · omega
theorem CycX.grownx {w w' : World} {g x : Nat} {v : Value} {cs : List Cu} (h : CycX w g x v cs) (hg : w.grownBy w' (some x)) : CycX w' g x v cs := by
  obtain ⟨A, b, off, cap, hv, hn, hA, hc⟩ := h
  refine ⟨A, b, off, cap, hv, hn, hA.imp (fun ⟨a, c, d⟩ => ⟨a, Nat.lt_of_lt_of_le c hg.size, d⟩) id, fun i j hi hj => ?_⟩
  rcases hA with ⟨_, hb, _, hne⟩ | h0
  · rw [gcell hg b _ hb hne]; exact hc i j hi hj
  · omega
theorem CycX.owned {w : World} {base g x : Nat} {v : Value} {cs : List Cu} (h : w.ownsRow base 54 2 v cs.length (flat cs.length 2 (cyF cs))) (hg : g < base) (hx : x < base) : CycX w g x v cs := by
  have h0 := Sl.of_owns h (fun i j hi hj => flat_get hi hj)
  obtain ⟨h1, ⟨hv, hn⟩ | ⟨b, cap, cur, hv, hb, hh, hn, _⟩⟩ := h
  · exact ⟨none, 0, 0, 0, by rw [hv, hn], by omega, .inr hn, fun i j hi hj => by omega⟩
  · obtain ⟨A, b', off, cap', hv', hn', hA', hc'⟩ := h0
    rw [hv] at hv'
    injection hv' with e1 e2 e3
    subst e3
    rcases hA' with ⟨hA', hb'⟩ | h0
    · rw [hA'] at e1
      injection e1 with e1
      injection e1 with e1 e4
      subst e1
      subst e4
      exact ⟨_, b, 0, cap, hv, hn, .inl ⟨rfl, hb', by omega, by omega⟩, hc'⟩
    · exact ⟨_, b, 0, cap, hv, hn, .inr h0, fun i j hi => by omega⟩

/-- The feeders' block while they are copied. -/
def FesX (w0 w : World) (x : Nat) (ve : Value) (es : List Fe) : Prop :=
  (es.length = 0 ∧ ∃ A cap, ve = .slice A 0 cap) ∨ ∃ (g cap : Nat) (C : Array Value) (cv : Nat → Value), ve = .slice (some ⟨g, 0, none⟩) es.length cap ∧ es.length ≤ cap ∧ w0.heap.size ≤ g ∧ w.heap[g]? = some (.cells C 74 (0, 0)) ∧ es.length * 7 ≤ C.size ∧
    (∀ i j, i < es.length → j < 7 → C[i * 7 + j]? = some (feC (es.getD i Fe.z) (cv i) j)) ∧ (∀ i, i < es.length → CycX w g x (cv i) (es.getD i Fe.z).cs)
structure CopyX (w0 w : World) (x pb : Nat) (vg vf ve : Value) (gs : List Ga) (fs : List Fu) (es : List Fe) : Prop where
  box : w.heap[pb]? = some (.cells #[vg, vf, ve] 63 (0, 0))
  g : w.ownsRow w0.heap.size 23 5 vg gs.length (flat gs.length 5 (gaF gs))
  f : w.ownsRow w0.heap.size 30 2 vf fs.length (flat fs.length 2 (fuF fs))
  e : FesX w0 w x ve es
  below : Below w0.heap.size w0 w

theorem wir_of {w0 w : World} {x : Nat} {vg vf ve : Value} {gs : List Ga} {fs : List Fu} {es : List Fe} (hg : w.ownsRow w0.heap.size 23 5 vg gs.length (flat gs.length 5 (gaF gs)))
    (hf : w.ownsRow w0.heap.size 30 2 vf fs.length (flat fs.length 2 (fuF fs))) (he : FesX w0 w x ve es) : Wir w w.heap.size vg vf ve gs fs es := by
  refine ⟨Sl.of_owns hg (fun i j hi hj => flat_get hi hj), Sl.of_owns hf (fun i j hi hj => flat_get hi hj), ?_⟩
  rcases he with ⟨h0, A, cap, rfl⟩ | ⟨g, cap, C, cv, rfl, hn, hg, hh, hs, hc, hcy⟩
  · refine ⟨fun _ => .slice none 0 0, ⟨A, 0, 0, cap, by rw [h0], by omega, .inr h0, fun i j hi => by omega⟩, fun i hi => by omega⟩
  · refine ⟨cv, ⟨_, g, 0, cap, rfl, hn, .inl ⟨rfl, box_lt hh⟩, fun i j hi hj => ?_⟩, fun i hi => (hcy i hi).cyc⟩
    rw [cellOf hh, Nat.zero_add]
    exact hc i j hi hj
theorem FesX.grownx {w0 w w' : World} {x : Nat} {ve : Value} {es : List Fe} (h : FesX w0 w x ve es) (hg : w.grownBy w' (some x)) (hx : x < w0.heap.size) : FesX w0 w' x ve es := by
  rcases h with h0 | ⟨g, cap, C, cv, hv, hn, hg', hh, hs, hc, hcy⟩
  · exact .inl h0
  · exact .inr ⟨g, cap, C, cv, hv, hn, hg', (hg.block g (box_lt hh) (fun e => by injection e with e; omega)).trans hh, hs, hc, fun i hi => (hcy i hi).grownx hg⟩

theorem FesX.form {w0 w : World} {x : Nat} {ve : Value} {es : List Fe} (h : FesX w0 w x ve es) : ∃ A cap, ve = .slice A es.length cap := by
  rcases h with ⟨h0, A, cap, h1⟩ | ⟨g, cap, C, cv, h1, _⟩
  · exact ⟨A, cap, by rw [h1, h0]⟩
  · exact ⟨_, cap, h1⟩
/-- One element's cycle replaced. -/
theorem FesX.step {w0 w w' : World} {es : List Fe} {g x cap k : Nat} {C : Array Value} {cv : Nat → Value} {v' : Value} (hk : k < es.length) (hn : es.length ≤ cap) (hg : w0.heap.size ≤ g)
    (hs : es.length * 7 ≤ C.size) (hc : ∀ i j, i < es.length → j < 7 → C[i * 7 + j]? = some (feC (es.getD i Fe.z) (cv i) j)) (hcy : ∀ i, i < es.length → CycX w g x (cv i) (es.getD i Fe.z).cs)
    (hgr : w.grownBy w' (some g)) (hv : CycX w' g x v' (es.getD k Fe.z).cs) {f : Fe} (hf : es.getD k Fe.z = f)
    (hh : w'.heap[g]? = some (.cells ((((C.setIfInBounds (k * 7 + 3) v').setIfInBounds (k * 7 + 3 + 1) (.int .i64 f.n.len)).setIfInBounds (k * 7 + 3 + 2) (.int .i64 f.n.drop)).setIfInBounds (k * 7 + 3 + 3) (.int .i64 f.n.amb)) 74 (0, 0))) :
    FesX w0 w' x (.slice (some ⟨g, 0, none⟩) es.length cap) es := by
  subst hf
  refine .inr ⟨g, cap, _, fun i => if i = k then v' else cv i, rfl, hn, hg, hh, by simpa using hs, fun i j hi hj => ?_, fun i hi => ?_⟩
  · have h0 := hc i j hi hj
    have hlt : i * 7 + j < C.size := (Array.getElem?_eq_some_iff.1 h0).1
    simp only [Array.getElem?_setIfInBounds, Array.size_setIfInBounds]
    by_cases e : i = k
    · subst e
      match j, hj with
      | 0, _ => rw [if_neg (by omega), if_neg (by omega), if_neg (by omega), if_neg (by omega)]; exact h0
      | 1, _ => rw [if_neg (by omega), if_neg (by omega), if_neg (by omega), if_neg (by omega)]; exact h0
      | 2, _ => rw [if_neg (by omega), if_neg (by omega), if_neg (by omega), if_neg (by omega)]; exact h0
      | 3, _ => rw [if_neg (by omega), if_neg (by omega), if_neg (by omega), if_pos (by omega), if_pos (by omega)]; simp [feC]
      | 4, _ => rw [if_neg (by omega), if_neg (by omega), if_pos (by omega), if_pos (by omega)]; rfl
      | 5, _ => rw [if_neg (by omega), if_pos (by omega), if_pos (by omega)]; rfl
      | 6, _ => rw [if_pos (by omega), if_pos (by omega)]; rfl
    · rw [if_neg (by omega), if_neg (by omega), if_neg (by omega), if_neg (by omega), if_neg e]
      exact h0
  · by_cases e : i = k
    · subst e; simpa using hv
    · simpa [e] using (hcy i hi).grown hgr

theorem feC_one {w : World} {B : Nat} {es : List Fe} {cv : Nat → Value} (h : ∀ i, i < es.length → Cyc w B (cv i) (es.getD i Fe.z).cs) : ∀ i j, i < es.length → j < 7 → (feC (es.getD i Fe.z) (cv i) j).oneCell' = true := by
  intro i j hi hj
  obtain ⟨C, cap, hv⟩ := Sl.form (h i hi)
  match j, hj with
  | 0, _ => rfl
  | 1, _ => rfl
  | 2, _ => rfl
  | 3, _ => show (cv i).oneCell' = true; rw [hv]; rfl
  | 4, _ => rfl
  | 5, _ => rfl
  | 6, _ => rfl
theorem owns_form {w : World} {base e size n : Nat} {v : Value} {xs : List Value} (h : w.ownsRow base e size v n xs) : ∃ A cap, v = .slice A n cap := by
  obtain ⟨_, ⟨h1, h2⟩ | ⟨g, cap, cur, h1, _⟩⟩ := h
  · exact ⟨none, 0, by rw [h1, h2]⟩
  · exact ⟨_, cap, h1⟩
/-- What each operation of the copy's first statement leaves. -/
def copyR (w0 : World) (gs : List Ga) (fs : List Fu) (es : List Fe) (cv : Nat → Value) (j : Nat) (v : Value) (w : World) : Prop :=
  match j with
  | 0 => w0.heap.size ≤ w.heap.size ∧ ∃ g, v = .slice (some ⟨g, 0, none⟩) 0 0 ∧ w.ownsRow w0.heap.size 23 5 v 0 []
  | 4 => w0.heap.size ≤ w.heap.size ∧ ∃ g, v = .slice (some ⟨g, 0, none⟩) 0 0 ∧ w.ownsRow w0.heap.size 30 2 v 0 []
  | 8 => w0.heap.size ≤ w.heap.size ∧ ∃ g, v = .slice (some ⟨g, 0, none⟩) 0 0 ∧ w.ownsRow w0.heap.size 74 7 v 0 []
  | 3 => w.ownsRow w0.heap.size 23 5 v gs.length (flat gs.length 5 (gaF gs))
  | 7 => w.ownsRow w0.heap.size 30 2 v fs.length (flat fs.length 2 (fuF fs))
  | 11 => w.ownsRow w0.heap.size 74 7 v es.length (flat es.length 7 (fun i j => feC (es.getD i Fe.z) (cv i) j))
  | 12 => ∃ a b c, v = .agg #[a, b, c] ∧ w.ownsRow w0.heap.size 23 5 a gs.length (flat gs.length 5 (gaF gs)) ∧ w.ownsRow w0.heap.size 30 2 b fs.length (flat fs.length 2 (fuF fs)) ∧ w.ownsRow w0.heap.size 74 7 c es.length (flat es.length 7 (fun i j => feC (es.getD i Fe.z) (cv i) j))
  | 13 => ∃ p, v = .pointer (some ⟨p, 0, none⟩) ∧ w0.heap.size ≤ p ∧ w.heap[p]? = some (.cells #[.slice none 0 0, .slice none 0 0, .slice none 0 0] 63 (0, 0))
  | _ => True
theorem copyR_keep {w0 : World} {gs : List Ga} {fs : List Fu} {es : List Fe} {cv : Nat → Value} (j : Nat) {v : Value} {w w' : World} (hb : Below w.heap.size w w') (h : copyR w0 gs fs es cv j v w) : copyR w0 gs fs es cv j v w' := by
  unfold copyR at *
  split at h
  · obtain ⟨h0, g, h1, h2⟩ := h; exact ⟨Nat.le_trans h0 hb.size, g, h1, owns_below h2 hb⟩
  · obtain ⟨h0, g, h1, h2⟩ := h; exact ⟨Nat.le_trans h0 hb.size, g, h1, owns_below h2 hb⟩
  · obtain ⟨h0, g, h1, h2⟩ := h; exact ⟨Nat.le_trans h0 hb.size, g, h1, owns_below h2 hb⟩
  · exact owns_below h hb
  · exact owns_below h hb
  · exact owns_below h hb
  · obtain ⟨a, b, c, h1, h2, h3, h4⟩ := h; exact ⟨a, b, c, h1, owns_below h2 hb, owns_below h3 hb, owns_below h4 hb⟩
  · obtain ⟨p, h1, h2, h3⟩ := h; exact ⟨p, h1, h2, heap_below h3 hb⟩
  · trivial

set_option maxRecDepth 100000 in
set_option maxHeartbeats 4000000 in
theorem Copy_any (gs : List Ga) (fs : List Fu) (es : List Fe) (gv fv ev : Value) (w : World) (hz : WSz gs fs es) (h : Wir w w.heap.size gv fv ev gs fs es) :
    Calls Try.prog 39 #[.agg #[gv, fv, ev]] w fun e w' => ∃ gv' fv' ev', e = .returned (.agg #[gv', fv', ev']) ∧ Wir w' w'.heap.size gv' fv' ev' gs fs es ∧ Below w.heap.size w w' := by
  obtain ⟨i0, hi0, hz0, hz1, hz2⟩ := info_parts infoGa
  obtain ⟨i1, hi1, hy0, hy1, hy2⟩ := info_parts infoFu
  obtain ⟨i2, hi2, hx0, hx1, hx2⟩ := info_parts infoFe
  have H := hide h
  obtain ⟨A0, cap0, rfl⟩ := Sl.form h.g
  obtain ⟨A1, cap1, rfl⟩ := Sl.form h.f
  obtain ⟨cv, hsl, hcy⟩ := h.e
  obtain ⟨A, cap, rfl⟩ := Sl.form hsl
  have HSL := hide hsl
  have HCY := hide hcy
  have HZ_ := hide hz
  have hg30 := hz.g
  have hf30 := hz.f
  have he30 := hz.e
  clear h hsl hcy hz
  go_enter Try.func39, Try.ntmps39
  go_upto_region 1 with (fail)
  generalize hw0 : World.alloc _ _ = w0
  obtain ⟨hb0, hb1, hB0, hs0⟩ := alloc2 hw0
  clear hw0
  have hwi : WiAt w0 w.heap.size (.slice A0 gs.length cap0) (.slice A1 fs.length cap1) (.slice A es.length cap) := hb0
  have HR := hide hb1
  have hl0 : w.heap.size < w0.heap.size := by omega
  clear hs0 hb1 hb0
  obtain ⟨k0, k1, k2, _⟩ := wi3 hwi (Below.refl _ w0)
  have HB0 := hide hB0
  go_cut [3] from 4 to 37 (fun p wc => ∃ pb vg vf ve, p = .pointer (some ⟨pb, 0, none⟩) ∧ w0.heap.size ≤ pb ∧ Hid (CopyX w0 wc (w.heap.size + 1) pb vg vf ve gs fs es))
  case first =>
    refine wp_region_held_drew (S := (fun w' => Below w0.heap.size w0 w')) (by kernel_rfl) ?_ (fun hHeld => ?_)
    · try dsimp only
      exact (by repeat (first | exact Below.refl _ _ | assumption | refine Below.drew ?_ | refine Below.drewN ?_ _ | refine Below.allocT ?_ (Nat.le_refl _) _ | refine Below.setCell ?_ (by simp <;> omega) _ | refine Below.to ?_ (by assumption) (Nat.le_refl _)))
    refine wpAnyH_take (i := 1) (v := ?v2_1) rfl (by kernel_rfl) (by kernel_rfl) (by kernel_rfl) (fun _ _ _ h => h) (Or.inl ⟨by rfl, ?y2_1⟩) (by assumption) ?r2_1
    case' y2_1 => (intro w hSw; (try dsimp only at hSw); obtain ⟨hcS, hfS⟩ := bcell hSw; clear hSw; go_simp; try with_reducible rfl)
    try simp only [Act.put, List.getElem_toArray, List.getElem_cons_succ, List.getElem_cons_zero, List.setIfInBounds_toArray, List.set_cons_zero, List.set_cons_succ]
    refine wpAnyH_take (i := 2) (v := ?v2_2) rfl (by kernel_rfl) (by kernel_rfl) (by kernel_rfl) (fun _ _ _ h => h) (Or.inl ⟨by rfl, ?y2_2⟩) (by assumption) ?r2_2
    case' y2_2 => (intro w hSw; (try dsimp only at hSw); obtain ⟨hcS, hfS⟩ := bcell hSw; clear hSw; go_simp; try with_reducible rfl)
    try simp only [Act.put, List.getElem_toArray, List.getElem_cons_succ, List.getElem_cons_zero, List.setIfInBounds_toArray, List.set_cons_zero, List.set_cons_succ]
    refine wpAnyH_take (i := 5) (v := ?v2_5) rfl (by kernel_rfl) (by kernel_rfl) (by kernel_rfl) (fun _ _ _ h => h) (Or.inl ⟨by rfl, ?y2_5⟩) (by assumption) ?r2_5
    case' y2_5 => (intro w hSw; (try dsimp only at hSw); obtain ⟨hcS, hfS⟩ := bcell hSw; clear hSw; go_simp; try with_reducible rfl)
    try simp only [Act.put, List.getElem_toArray, List.getElem_cons_succ, List.getElem_cons_zero, List.setIfInBounds_toArray, List.set_cons_zero, List.set_cons_succ]
    refine wpAnyH_take (i := 6) (v := ?v2_6) rfl (by kernel_rfl) (by kernel_rfl) (by kernel_rfl) (fun _ _ _ h => h) (Or.inl ⟨by rfl, ?y2_6⟩) (by assumption) ?r2_6
    case' y2_6 => (intro w hSw; (try dsimp only at hSw); obtain ⟨hcS, hfS⟩ := bcell hSw; clear hSw; go_simp; try with_reducible rfl)
    try simp only [Act.put, List.getElem_toArray, List.getElem_cons_succ, List.getElem_cons_zero, List.setIfInBounds_toArray, List.set_cons_zero, List.set_cons_succ]
    refine wpAnyH_take (i := 9) (v := ?v2_9) rfl (by kernel_rfl) (by kernel_rfl) (by kernel_rfl) (fun _ _ _ h => h) (Or.inl ⟨by rfl, ?y2_9⟩) (by assumption) ?r2_9
    case' y2_9 => (intro w hSw; (try dsimp only at hSw); obtain ⟨hcS, hfS⟩ := bcell hSw; clear hSw; go_simp; try with_reducible rfl)
    try simp only [Act.put, List.getElem_toArray, List.getElem_cons_succ, List.getElem_cons_zero, List.setIfInBounds_toArray, List.set_cons_zero, List.set_cons_succ]
    refine wpAnyH_take (i := 10) (v := ?v2_10) rfl (by kernel_rfl) (by kernel_rfl) (by kernel_rfl) (fun _ _ _ h => h) (Or.inl ⟨by rfl, ?y2_10⟩) (by assumption) ?r2_10
    case' y2_10 => (intro w hSw; (try dsimp only at hSw); obtain ⟨hcS, hfS⟩ := bcell hSw; clear hSw; go_simp; try with_reducible rfl)
    try simp only [Act.put, List.getElem_toArray, List.getElem_cons_succ, List.getElem_cons_zero, List.setIfInBounds_toArray, List.set_cons_zero, List.set_cons_succ]
    refine wpAnyH_start [0, 3, 4, 7, 8, 11, 12, 13] (fun j => match j with | 0 => 5 | 3 => 8 | 4 => 9 | 7 => 12 | 8 => 13 | 11 => 16 | 12 => 17 | 13 => 3 | _ => 0) (copyR w0 gs fs es cv) 1 rfl (by kernel_rfl) (by kernel_rfl) (by decide) (by decide) (by kernel_rfl) hHeld ?hkeep ?hstep ?hend
    case hkeep => exact fun j _ v w w' hb h => copyR_keep j hb h
    case hstep =>
      intro j hj tv w5 hS hd
      have hsz0 : w0.heap.size ≤ w5.heap.size := hS.size
      simp only [List.mem_cons, List.not_mem_nil, or_false] at hj
      rcases hj with rfl | rfl | rfl | rfl | rfl | rfl | rfl | rfl
      · refine wpOp_step rfl (fun K hK => ?_)
        generalize hax : putAll _ _ tv _ = ax at hK ⊢
        simp only [putAll, Act.put, List.setIfInBounds_toArray, List.set_cons_zero, List.set_cons_succ] at hax
        rw [← hax]
        go_simp
        exact hK _ _ ⟨⟨_, by rw [← hax]; rfl, by simp; omega, _, rfl, World.ownsRow_made w5 #[] 0 hsz0 (by unfold maxLen; omega) rfl⟩, (by repeat (first | exact Below.refl _ _ | assumption | refine Below.drew ?_ | refine Below.drewN ?_ _ | refine Below.allocT ?_ (Nat.le_refl _) _ | refine Below.setCell ?_ (by simp <;> omega) _ | refine Below.to ?_ (by assumption) (Nat.le_refl _))), (by repeat (first | exact Below.refl _ _ | assumption | refine Below.drew ?_ | refine Below.drewN ?_ _ | refine Below.allocT ?_ (Nat.le_refl _) _ | refine Below.setCell ?_ (by simp <;> omega) _ | refine Below.to ?_ (by assumption) (Nat.le_refl _)))⟩
      · obtain ⟨_, g, hg, hown⟩ := hd 0 (by decide) (by kernel_rfl)
        rw [hg] at hown
        refine wpOp_step rfl (fun K hK => ?_)
        generalize hax : putAll _ _ tv _ = ax at hK ⊢
        simp only [putAll, Act.put, List.setIfInBounds_toArray, List.set_cons_zero, List.set_cons_succ] at hax
        have evs : ax.eval (.tmp 5) = .slice (some ⟨g, 0, none⟩) 0 0 := by rw [← hax]; exact hg
        have ex := congrArg (fun a => Act.eval a (.tmp 7)) hax.symm
        refine step_append_fresh _ (by rfl) (.tmp 5) (.tmp 7) _ (by rfl) w0.heap.size 23 i0 _ 5 40 Try.underlying57 hi0 hz0 hz1 hz2 (by rfl) (by omega) g evs hown w5.heap.size A0 gs.length cap0 (flat gs.length 5 (gaF gs)) ex (Sl.reads ((Sl.below H.out.g (Below.to HB0.out hS (Nat.le_refl _))).more (by have := HB0.out.size; omega)) (by omega)) (flat_one (by omega) (gaF_one gs)) (by unfold maxLen; omega) (by omega) hsz0 ?_
        intro v' w' hown' hB'
        exact hK _ _ ⟨⟨_, rfl, hown'⟩, hB', (by repeat (first | exact Below.refl _ _ | assumption | refine Below.drew ?_ | refine Below.drewN ?_ _ | refine Below.allocT ?_ (Nat.le_refl _) _ | refine Below.setCell ?_ (by simp <;> omega) _ | refine Below.to ?_ (by assumption) (Nat.le_refl _)))⟩
      · refine wpOp_step rfl (fun K hK => ?_)
        generalize hax : putAll _ _ tv _ = ax at hK ⊢
        simp only [putAll, Act.put, List.setIfInBounds_toArray, List.set_cons_zero, List.set_cons_succ] at hax
        rw [← hax]
        go_simp
        exact hK _ _ ⟨⟨_, by rw [← hax]; rfl, by simp; omega, _, rfl, World.ownsRow_made w5 #[] 0 hsz0 (by unfold maxLen; omega) rfl⟩, (by repeat (first | exact Below.refl _ _ | assumption | refine Below.drew ?_ | refine Below.drewN ?_ _ | refine Below.allocT ?_ (Nat.le_refl _) _ | refine Below.setCell ?_ (by simp <;> omega) _ | refine Below.to ?_ (by assumption) (Nat.le_refl _))), (by repeat (first | exact Below.refl _ _ | assumption | refine Below.drew ?_ | refine Below.drewN ?_ _ | refine Below.allocT ?_ (Nat.le_refl _) _ | refine Below.setCell ?_ (by simp <;> omega) _ | refine Below.to ?_ (by assumption) (Nat.le_refl _)))⟩
      · obtain ⟨_, g, hg, hown⟩ := hd 4 (by decide) (by kernel_rfl)
        rw [hg] at hown
        refine wpOp_step rfl (fun K hK => ?_)
        generalize hax : putAll _ _ tv _ = ax at hK ⊢
        simp only [putAll, Act.put, List.setIfInBounds_toArray, List.set_cons_zero, List.set_cons_succ] at hax
        have evs : ax.eval (.tmp 9) = .slice (some ⟨g, 0, none⟩) 0 0 := by rw [← hax]; exact hg
        have ex := congrArg (fun a => Act.eval a (.tmp 11)) hax.symm
        refine step_append_fresh _ (by rfl) (.tmp 9) (.tmp 11) _ (by rfl) w0.heap.size 30 i1 _ 2 16 Try.underlying60 hi1 hy0 hy1 hy2 (by rfl) (by omega) g evs hown w5.heap.size A1 fs.length cap1 (flat fs.length 2 (fuF fs)) ex (Sl.reads ((Sl.below H.out.f (Below.to HB0.out hS (Nat.le_refl _))).more (by have := HB0.out.size; omega)) (by omega)) (flat_one (by omega) (fuF_one fs)) (by unfold maxLen; omega) (by omega) hsz0 ?_
        intro v' w' hown' hB'
        exact hK _ _ ⟨⟨_, rfl, hown'⟩, hB', (by repeat (first | exact Below.refl _ _ | assumption | refine Below.drew ?_ | refine Below.drewN ?_ _ | refine Below.allocT ?_ (Nat.le_refl _) _ | refine Below.setCell ?_ (by simp <;> omega) _ | refine Below.to ?_ (by assumption) (Nat.le_refl _)))⟩
      · refine wpOp_step rfl (fun K hK => ?_)
        generalize hax : putAll _ _ tv _ = ax at hK ⊢
        simp only [putAll, Act.put, List.setIfInBounds_toArray, List.set_cons_zero, List.set_cons_succ] at hax
        rw [← hax]
        go_simp
        exact hK _ _ ⟨⟨_, by rw [← hax]; rfl, by simp; omega, _, rfl, World.ownsRow_made w5 #[] 0 hsz0 (by unfold maxLen; omega) rfl⟩, (by repeat (first | exact Below.refl _ _ | assumption | refine Below.drew ?_ | refine Below.drewN ?_ _ | refine Below.allocT ?_ (Nat.le_refl _) _ | refine Below.setCell ?_ (by simp <;> omega) _ | refine Below.to ?_ (by assumption) (Nat.le_refl _))), (by repeat (first | exact Below.refl _ _ | assumption | refine Below.drew ?_ | refine Below.drewN ?_ _ | refine Below.allocT ?_ (Nat.le_refl _) _ | refine Below.setCell ?_ (by simp <;> omega) _ | refine Below.to ?_ (by assumption) (Nat.le_refl _)))⟩
      · obtain ⟨_, g, hg, hown⟩ := hd 8 (by decide) (by kernel_rfl)
        rw [hg] at hown
        refine wpOp_step rfl (fun K hK => ?_)
        generalize hax : putAll _ _ tv _ = ax at hK ⊢
        simp only [putAll, Act.put, List.setIfInBounds_toArray, List.set_cons_zero, List.set_cons_succ] at hax
        have evs : ax.eval (.tmp 13) = .slice (some ⟨g, 0, none⟩) 0 0 := by rw [← hax]; exact hg
        have ex := congrArg (fun a => Act.eval a (.tmp 15)) hax.symm
        refine step_append_fresh _ (by rfl) (.tmp 13) (.tmp 15) _ (by rfl) w0.heap.size 74 i2 _ 7 72 Try.underlying61 hi2 hx0 hx1 hx2 (by rfl) (by omega) g evs hown w5.heap.size A es.length cap (flat es.length 7 (fun i j => feC (es.getD i Fe.z) (cv i) j)) ex (Sl.reads ((Sl.below HSL.out (Below.to HB0.out hS (Nat.le_refl _))).more (by have := HB0.out.size; omega)) (by omega)) (flat_one' (by omega) (feC_one HCY.out)) (by unfold maxLen; omega) (by omega) hsz0 ?_
        intro v' w' hown' hB'
        exact hK _ _ ⟨⟨_, rfl, hown'⟩, hB', (by repeat (first | exact Below.refl _ _ | assumption | refine Below.drew ?_ | refine Below.drewN ?_ _ | refine Below.allocT ?_ (Nat.le_refl _) _ | refine Below.setCell ?_ (by simp <;> omega) _ | refine Below.to ?_ (by assumption) (Nat.le_refl _)))⟩
      · have h3 := hd 3 (by decide) (by kernel_rfl)
        have h7 := hd 7 (by decide) (by kernel_rfl)
        have h11 := hd 11 (by decide) (by kernel_rfl)
        have HD := hide (And.intro h3 (And.intro h7 h11))
        obtain ⟨A3, c3, e3⟩ := owns_form h3
        obtain ⟨A7, c7, e7⟩ := owns_form h7
        obtain ⟨A11, c11, e11⟩ := owns_form h11
        rw [e3, e7, e11] at HD
        clear hd h3 h7 h11
        refine wpOp_step rfl (fun K hK => ?_)
        generalize hax : putAll _ _ tv _ = ax at hK ⊢
        simp only [putAll, Act.put, List.setIfInBounds_toArray, List.set_cons_zero, List.set_cons_succ, e3, e7, e11] at hax
        rw [← hax]
        go_simp
        exact hK _ _ ⟨⟨_, by rw [← hax]; rfl, _, _, _, rfl, HD.out.1, HD.out.2.1, HD.out.2.2⟩, (by repeat (first | exact Below.refl _ _ | assumption | refine Below.drew ?_ | refine Below.drewN ?_ _ | refine Below.allocT ?_ (Nat.le_refl _) _ | refine Below.setCell ?_ (by simp <;> omega) _ | refine Below.to ?_ (by assumption) (Nat.le_refl _))), (by repeat (first | exact Below.refl _ _ | assumption | refine Below.drew ?_ | refine Below.drewN ?_ _ | refine Below.allocT ?_ (Nat.le_refl _) _ | refine Below.setCell ?_ (by simp <;> omega) _ | refine Below.to ?_ (by assumption) (Nat.le_refl _)))⟩
      · refine wpOp_step rfl (fun K hK => ?_)
        generalize hax : putAll _ _ tv _ = ax at hK ⊢
        simp only [putAll, Act.put, List.setIfInBounds_toArray, List.set_cons_zero, List.set_cons_succ] at hax
        rw [← hax]
        go_simp
        exact hK _ _ ⟨⟨_, by rw [← hax]; rfl, _, rfl, hsz0, heap_alloc_new _ _⟩, (by repeat (first | exact Below.refl _ _ | assumption | refine Below.drew ?_ | refine Below.drewN ?_ _ | refine Below.allocT ?_ (Nat.le_refl _) _ | refine Below.setCell ?_ (by simp <;> omega) _ | refine Below.to ?_ (by assumption) (Nat.le_refl _))), (by repeat (first | exact Below.refl _ _ | assumption | refine Below.drew ?_ | refine Below.drewN ?_ _ | refine Below.allocT ?_ (Nat.le_refl _) _ | refine Below.setCell ?_ (by simp <;> omega) _ | refine Below.to ?_ (by assumption) (Nat.le_refl _)))⟩
    case hend =>
      intro tv w5 hS hR
      obtain ⟨a, b, c, h12, hg, hf, he⟩ := hR 12 (by decide)
      obtain ⟨p, h13, hp, hpb⟩ := hR 13 (by decide)
      clear hR
      obtain ⟨A3, c3, rfl⟩ := owns_form hg
      obtain ⟨A7, c7, rfl⟩ := owns_form hf
      obtain ⟨A11, c11, rfl⟩ := owns_form he
      have p0 : w5.cell? ⟨p, 0, none⟩ = _ := cellOf hpb 0
      have p1 : w5.cell? ⟨p, 1, none⟩ = _ := cellOf hpb 1
      have p2 : w5.cell? ⟨p, 2, none⟩ = _ := cellOf hpb 2
      have q0 := unfrozenOf hpb 0
      have q1 := unfrozenOf hpb 1
      have q2 := unfrozenOf hpb 2
      have HG := hide hg
      have HF := hide hf
      have HE := hide he
      have HP := hide hpb
      have hlp := box_lt hpb
      clear hg hf he hpb
      simp only [putAll, Act.put, List.setIfInBounds_toArray, List.set_cons_zero, List.set_cons_succ, h12, h13]
      refine wpAnyH_ready (rs := [14]) (by kernel_rfl) (by simp) ?_
      refine AllReadyH.cons rfl (fun K hK => ?_) AllReadyH.nil
      go_simp
      have hne : ∀ g, g < w0.heap.size → g ≠ p := fun g hg => by omega
      have hgr : w5.grownBy (((w5.setCell ⟨p, 0, none⟩ (.slice A3 gs.length c3)).setCell ⟨p, 1, none⟩ (.slice A7 fs.length c7)).setCell ⟨p, 2, none⟩ (.slice A11 es.length c11)) (some p) := by
        refine only_setCell (only_setCell (only_setCell (only_refl _ _) ?_ _) ?_ _) ?_ _
        all_goals exact .inl rfl
      have hbw : Below w0.heap.size w0 (((w5.setCell ⟨p, 0, none⟩ (.slice A3 gs.length c3)).setCell ⟨p, 1, none⟩ (.slice A7 fs.length c7)).setCell ⟨p, 2, none⟩ (.slice A11 es.length c11)) := by
        refine Below.setCell (Below.setCell (Below.setCell hS ?_ _) ?_ _) ?_ _
        all_goals exact hp
      refine hK.out _ _ ?_ (fun hNext => ?_)
      · exact hbw
      · clear hK K
        refine wpAnyH_done (by kernel_rfl) ?_ _
        go_wp2_with fail
        go_meet
        case rel =>
          have hf3 : ∀ {e sz n : Nat} {v : Value} {xs : List Value}, e ≠ 63 → w5.ownsRow w0.heap.size e sz v n xs → (((w5.setCell ⟨p, 0, none⟩ (.slice A3 gs.length c3)).setCell ⟨p, 1, none⟩ (.slice A7 fs.length c7)).setCell ⟨p, 2, none⟩ (.slice A11 es.length c11)).ownsRow w0.heap.size e sz v n xs := fun hne h => owns_grown h hgr HP.out hne
          refine ⟨p, _, _, _, rfl, hp, setCellOf (setCellOf (setCellOf HP.out _) _) _, hf3 (by decide) HG.out, hf3 (by decide) HF.out, ?_, hbw⟩
          have he2 := hf3 (by decide) HE.out
          rcases Nat.eq_zero_or_pos es.length with h0 | h0
          · refine .inl ⟨h0, ?_⟩
            rcases he2.2 with ⟨h1, _⟩ | ⟨g, cp, cur, h1, _⟩
            · exact ⟨none, 0, h1⟩
            · exact ⟨_, cp, by rw [h1, h0]⟩
          · rcases he2.2 with ⟨_, h1⟩ | ⟨g, cp, cur, h1, h2, h3, h4, _, h5, h6⟩
            · omega
            · have hcells : ∀ i j, i < es.length → j < 7 → cur[i * 7 + j]? = some (feC (es.getD i Fe.z) (cv i) j) := fun i j hi hj => by
                have hx := flat_get (f := fun i j => feC (es.getD i Fe.z) (cv i) j) hi hj
                rw [← h6, List.getElem?_take, if_pos (idx_lt hi hj)] at hx
                simpa using hx
              exact .inr ⟨g, cp, cur, cv, h1, h4, h2, h3, by rw [h5]; exact Nat.mul_le_mul_right _ h4, hcells, fun i hi => CycX.of (Sl.more (Sl.below (HCY.out i hi) (Below.to HB0.out hbw (Nat.le_refl _))) (Nat.le_refl _)) (by have := HB0.out.size; have := hbw.size; omega) (by have := HB0.out.size; omega) (by omega)⟩
  case rest =>
    obtain ⟨pb, vg, vf, ve, rfl, hpb, hX⟩ := hcut
    clear k0 k1 k2
    obtain ⟨Ag, cpg, rfl⟩ := owns_form hX.out.g
    obtain ⟨Af, cpf, rfl⟩ := owns_form hX.out.f
    obtain ⟨Ae, cpe, rfl⟩ := hX.out.e.form
    go_wp2_with fail
    go_loopw [4] (fun i wr => ∃ k : Nat, k ≤ es.length ∧ i = .int .i64 k ∧ Hid (CopyX w0 wr (w.heap.size + 1) pb (.slice Ag gs.length cpg) (.slice Af fs.length cpf) (.slice Ae es.length cpe) gs fs es)) (fun i _ => es.length - (intOf i).toNat)
    case atStart => exact ⟨0, Nat.zero_le _, rfl, hX.out⟩
    case round =>
      obtain ⟨k, hk, rfl, hX2⟩ := hrel
      clear hX
      have hbox := hX2.out.box
      have j0 : wr.cell? ⟨pb, 0, none⟩ = some (.slice Ag gs.length cpg) := cellOf hbox 0
      have j1 : wr.cell? ⟨pb, 1, none⟩ = some (.slice Af fs.length cpf) := cellOf hbox 1
      have j2 : wr.cell? ⟨pb, 2, none⟩ = some (.slice Ae es.length cpe) := cellOf hbox 2
      have HBX := hide hbox
      have hlpb : pb < wr.heap.size := box_lt hbox
      clear hbox
      by_cases hlt : k < es.length
      · rcases hX2.out.e with ⟨h0, _⟩ | ⟨g, cap', C, cv', hv, hn, hg, hh, hs, hc, hcy⟩
        · omega
        · injection hv with e1 e2 e3
          subst e1 e3
          have hne : pb ≠ g := fun e => by
            subst e
            have := HBX.out.symm.trans hh
            injection this with this
            injection this with _ this
            exact absurd this (by decide)
          have hlg : g < wr.heap.size := box_lt hh
          obtain ⟨f, hf⟩ : ∃ f, es.getD k Fe.z = f := ⟨_, rfl⟩
          have hck := fun j (hj : j < 7) => hc k j hlt hj
          rw [hf] at hck
          have hyk := hcy k hlt
          rw [hf] at hyk
          obtain ⟨C1, b1, o1, cp1, hv1, hrest⟩ := hyk
          have HYK : Hid (CycX wr g (w.heap.size + 1) (cv' k) f.cs) := by have := hcy k hlt; rw [hf] at this; exact this
          rw [hv1] at HYK
          have c3 := hck 3 (by omega)
          rw [show feC f (cv' k) 3 = cv' k from rfl, hv1] at c3
          have c4 := hck 4 (by omega)
          have c5 := hck 5 (by omega)
          have c6 := hck 6 (by omega)
          have HN20 : Hid (f.cs.length ≤ 20) := by show _; have := HZ_.out.c k hlt; rw [hf] at this; exact this
          have HHF := hide hf
          have HC := hide hc
          have HCV := hide hcy
          have HH := hide hh
          have g3 : wr.cell? ⟨g, k * 7 + 3, none⟩ = some (.slice C1 f.cs.length cp1) := (cellOf hh _).trans c3
          have g4 : wr.cell? ⟨g, k * 7 + 3 + 1, none⟩ = some (.int .i64 f.n.len) := (cellOf hh _).trans c4
          have g5 : wr.cell? ⟨g, k * 7 + 3 + 2, none⟩ = some (.int .i64 f.n.drop) := (cellOf hh _).trans c5
          have g6 : wr.cell? ⟨g, k * 7 + 3 + 3, none⟩ = some (.int .i64 f.n.amb) := (cellOf hh _).trans c6
          have HC3 := hide c3
          have HC4 := hide c4
          have HC5 := hide c5
          have HC6 := hide c6
          clear hrest hv1 hck hf hc hcy hh c3 c4 c5 c6
          have hi0 : (0 : Int) ≤ (k : Int) := by omega
          have hi1 : (k : Int) < (es.length : Int) := by omega
          go_wp2_with fail
          refine wp_region_held_drew (S := (fun w' => wr.grownBy w' (some g))) (by kernel_rfl) ?_ (fun hHeld => ?_)
          · try dsimp only
            (first | exact only_refl _ _ | assumption | exact only_drew (only_refl _ _) | exact hKeep.out | exact only_drew (by assumption) | (refine only_trans hKeep.out ?_; refine only_setCell (only_setCell (only_setCell (only_setCell (only_refl _ _) ?_ _) ?_ _) ?_ _) ?_ _ <;> exact .inl rfl))
          refine wpAnyH_take (i := 0) (v := ?v1_0) rfl (by kernel_rfl) (by kernel_rfl) (by kernel_rfl) (fun _ _ _ h => h) (Or.inl ⟨by rfl, ?y1_0⟩) (by assumption) ?r1_0
          case' y1_0 => (intro w hSw; (try dsimp only at hSw); have hcS := gcell hSw; clear hSw; go_simp; try with_reducible rfl)
          try simp only [Act.put, List.getElem_toArray, List.getElem_cons_succ, List.getElem_cons_zero, List.setIfInBounds_toArray, List.set_cons_zero, List.set_cons_succ]
          refine wpAnyH_take (i := 1) (v := ?v1_1) rfl (by kernel_rfl) (by kernel_rfl) (by kernel_rfl) (fun _ _ _ h => h) (Or.inl ⟨by rfl, ?y1_1⟩) (by assumption) ?r1_1
          case' y1_1 => (intro w hSw; (try dsimp only at hSw); have hcS := gcell hSw; clear hSw; go_simp; try with_reducible rfl)
          try simp only [Act.put, List.getElem_toArray, List.getElem_cons_succ, List.getElem_cons_zero, List.setIfInBounds_toArray, List.set_cons_zero, List.set_cons_succ]
          refine wpAnyH_take (i := 2) (v := ?v1_2) rfl (by kernel_rfl) (by kernel_rfl) (by kernel_rfl) (fun _ _ _ h => h) (Or.inl ⟨by rfl, ?y1_2⟩) (by assumption) ?r1_2
          case' y1_2 => (intro w hSw; (try dsimp only at hSw); have hcS := gcell hSw; clear hSw; go_simp; try with_reducible rfl)
          try simp only [Act.put, List.getElem_toArray, List.getElem_cons_succ, List.getElem_cons_zero, List.setIfInBounds_toArray, List.set_cons_zero, List.set_cons_succ]
          refine wpAnyH_take (i := 3) (v := ?v1_3) rfl (by kernel_rfl) (by kernel_rfl) (by kernel_rfl) (fun _ _ _ h => h) (Or.inl ⟨by rfl, ?y1_3⟩) (by assumption) ?r1_3
          case' y1_3 => (intro w hSw; (try dsimp only at hSw); have hcS := gcell hSw; clear hSw; go_simp; try with_reducible rfl)
          try simp only [Act.put, List.getElem_toArray, List.getElem_cons_succ, List.getElem_cons_zero, List.setIfInBounds_toArray, List.set_cons_zero, List.set_cons_succ]
          refine wpAnyH_take (i := 4) (v := ?v1_4) rfl (by kernel_rfl) (by kernel_rfl) (by kernel_rfl) (fun _ _ _ h => h) (Or.inl ⟨by rfl, ?y1_4⟩) (by assumption) ?r1_4
          case' y1_4 => (intro w hSw; (try dsimp only at hSw); have hcS := gcell hSw; clear hSw; go_simp; try with_reducible rfl)
          try simp only [Act.put, List.getElem_toArray, List.getElem_cons_succ, List.getElem_cons_zero, List.setIfInBounds_toArray, List.set_cons_zero, List.set_cons_succ]
          refine wpAnyH_take (i := 5) (v := ?v1_5) rfl (by kernel_rfl) (by kernel_rfl) (by kernel_rfl) (fun _ _ _ h => h) (Or.inl ⟨by rfl, ?y1_5⟩) (by assumption) ?r1_5
          case' y1_5 => (intro w hSw; (try dsimp only at hSw); have hcS := gcell hSw; clear hSw; go_simp; try with_reducible rfl)
          try simp only [Act.put, List.getElem_toArray, List.getElem_cons_succ, List.getElem_cons_zero, List.setIfInBounds_toArray, List.set_cons_zero, List.set_cons_succ]
          refine wpAnyH_take (i := 6) (v := ?v1_6) rfl (by kernel_rfl) (by kernel_rfl) (by kernel_rfl) (fun _ _ _ h => h) (Or.inl ⟨by rfl, ?y1_6⟩) (by assumption) ?r1_6
          case' y1_6 => (intro w hSw; (try dsimp only at hSw); have hcS := gcell hSw; clear hSw; go_simp; try with_reducible rfl)
          try simp only [Act.put, List.getElem_toArray, List.getElem_cons_succ, List.getElem_cons_zero, List.setIfInBounds_toArray, List.set_cons_zero, List.set_cons_succ]
          refine wpAnyH_take (i := 7) (v := ?v1_7) rfl (by kernel_rfl) (by kernel_rfl) (by kernel_rfl) (fun _ _ _ h => h) (Or.inl ⟨by rfl, ?y1_7⟩) (by assumption) ?r1_7
          case' y1_7 => (intro w hSw; (try dsimp only at hSw); have hcS := gcell hSw; clear hSw; go_simp; try with_reducible rfl)
          try simp only [Act.put, List.getElem_toArray, List.getElem_cons_succ, List.getElem_cons_zero, List.setIfInBounds_toArray, List.set_cons_zero, List.set_cons_succ]
          refine wpAnyH_ready (rs := [8]) (by kernel_rfl) (by simp) ?_
          refine AllReadyH.cons rfl (fun K hK => ?_) AllReadyH.nil
          go_simp
          refine hK.out _ _ ?_ (fun hNext => ?_)
          · try dsimp only
            (first | exact only_refl _ _ | assumption | exact only_drew (only_refl _ _) | exact hKeep.out | exact only_drew (by assumption) | (refine only_trans hKeep.out ?_; refine only_setCell (only_setCell (only_setCell (only_setCell (only_refl _ _) ?_ _) ?_ _) ?_ _) ?_ _ <;> exact .inl rfl))
          clear hK K hHeld
          have hHeld := hNext
          clear hNext
          (try dsimp only at hHeld)
          try simp only [Act.put, List.getElem_toArray, List.getElem_cons_succ, List.getElem_cons_zero, List.setIfInBounds_toArray, List.set_cons_zero, List.set_cons_succ]
          refine wpAnyH_ready (rs := [9]) (by kernel_rfl) (by simp) ?_
          refine AllReadyH.cons rfl (fun K hK => ?_) AllReadyH.nil
          go_simp
          ((go_at_call 32; refine (copyNeed_own f.n _ f.cs wr.drew HN20.out (show Cyc wr.drew wr.drew.heap.size _ _ from HYK.out.cyc)).mono ?_; rintro e w1 ⟨v1, rfl, ho1, hB1⟩; have HB1 : Hid (Below wr.heap.size wr w1) := ⟨hB1.os, hB1.tape, hB1.output, hB1.size, hB1.block⟩; have HO1 : Hid (w1.ownsRow wr.heap.size 54 2 v1 f.cs.length (flat f.cs.length 2 (cyF f.cs))) := ho1; have hKeep : Hid (wr.grownBy w1 (some g)) := grown_of_below HB1.out; obtain ⟨A2, cp2, rfl⟩ := owns_form ho1; have hh1 := heap_below HH.out HB1.out; have s3 := (cellOf hh1 (k * 7 + 3)).trans HC3.out; have s4 := (cellOf hh1 (k * 7 + 3 + 1)).trans HC4.out; have s5 := (cellOf hh1 (k * 7 + 3 + 2)).trans HC5.out; have s6 := (cellOf hh1 (k * 7 + 3 + 3)).trans HC6.out; have t3 := unfrozenOf hh1 (k * 7 + 3); have t4 := unfrozenOf hh1 (k * 7 + 3 + 1); have t5 := unfrozenOf hh1 (k * 7 + 3 + 2); have t6 := unfrozenOf hh1 (k * 7 + 3 + 3); have HH1 := hide hh1; clear hh1 ho1 hB1))
          (try dsimp only)
          refine hK.out _ _ ?_ (fun hNext => ?_)
          · try dsimp only
            (first | exact only_refl _ _ | assumption | exact only_drew (only_refl _ _) | exact hKeep.out | exact only_drew (by assumption) | (refine only_trans hKeep.out ?_; refine only_setCell (only_setCell (only_setCell (only_setCell (only_refl _ _) ?_ _) ?_ _) ?_ _) ?_ _ <;> exact .inl rfl))
          clear hK K hHeld
          have hHeld := hNext
          clear hNext
          (try dsimp only at hHeld)
          try simp only [Act.put, List.getElem_toArray, List.getElem_cons_succ, List.getElem_cons_zero, List.setIfInBounds_toArray, List.set_cons_zero, List.set_cons_succ]
          refine wpAnyH_take (i := 10) (v := ?v1_10) rfl (by kernel_rfl) (by kernel_rfl) (by kernel_rfl) (fun _ _ _ h => h) (Or.inl ⟨by rfl, ?y1_10⟩) (by assumption) ?r1_10
          case' y1_10 => (intro w hSw; (try dsimp only at hSw); have hcS := gcell hSw; clear hSw; go_simp; try with_reducible rfl)
          try simp only [Act.put, List.getElem_toArray, List.getElem_cons_succ, List.getElem_cons_zero, List.setIfInBounds_toArray, List.set_cons_zero, List.set_cons_succ]
          refine wpAnyH_take (i := 11) (v := ?v1_11) rfl (by kernel_rfl) (by kernel_rfl) (by kernel_rfl) (fun _ _ _ h => h) (Or.inl ⟨by rfl, ?y1_11⟩) (by assumption) ?r1_11
          case' y1_11 => (intro w hSw; (try dsimp only at hSw); have hcS := gcell hSw; clear hSw; go_simp; try with_reducible rfl)
          try simp only [Act.put, List.getElem_toArray, List.getElem_cons_succ, List.getElem_cons_zero, List.setIfInBounds_toArray, List.set_cons_zero, List.set_cons_succ]
          refine wpAnyH_ready (rs := [12]) (by kernel_rfl) (by simp) ?_
          refine AllReadyH.cons rfl (fun K hK => ?_) AllReadyH.nil
          go_simp
          refine hK.out _ _ ?_ (fun hNext => ?_)
          · try dsimp only
            (first | exact only_refl _ _ | assumption | exact only_drew (only_refl _ _) | exact hKeep.out | exact only_drew (by assumption) | (refine only_trans hKeep.out ?_; refine only_setCell (only_setCell (only_setCell (only_setCell (only_refl _ _) ?_ _) ?_ _) ?_ _) ?_ _ <;> exact .inl rfl))
          clear hK K hHeld
          have hHeld := hNext
          clear hNext
          (try dsimp only at hHeld)
          try simp only [Act.put, List.getElem_toArray, List.getElem_cons_succ, List.getElem_cons_zero, List.setIfInBounds_toArray, List.set_cons_zero, List.set_cons_succ]
          refine wpAnyH_done (by kernel_rfl) ?_ _
          generalize hwz : World.setCell _ _ _ = wz at hHeld ⊢
          have hhz := setCellOf (i := k * 7 + 3 + 3) (setCellOf (i := k * 7 + 3 + 2) (setCellOf (i := k * 7 + 3 + 1) (setCellOf (i := k * 7 + 3) HH1.out (.slice A2 f.cs.length cp2)) (.int .i64 f.n.len)) (.int .i64 f.n.drop)) (.int .i64 f.n.amb)
          rw [hwz] at hhz
          have hg1z : w1.grownBy wz (some g) := by
            rw [← hwz]
            refine only_setCell (only_setCell (only_setCell (only_setCell (only_refl _ _) ?_ _) ?_ _) ?_ _) ?_ _
            all_goals exact .inl rfl
          have hbz : Below w0.heap.size w0 wz := by
            rw [← hwz]
            refine Below.setCell (Below.setCell (Below.setCell (Below.setCell (Below.to hX2.out.below HB1.out (Nat.le_refl _)) ?_ _) ?_ _) ?_ _) ?_ _
            all_goals exact hg
          have hwzg : wr.grownBy wz (some g) := only_trans hKeep.out hg1z
          have hCX : CopyX w0 wz (w.heap.size + 1) pb (.slice Ag gs.length cpg) (.slice Af fs.length cpf) (.slice (some ⟨g, 0, none⟩) es.length cpe) gs fs es :=
            ⟨(hwzg.block pb hlpb (fun e => hne (by injection e))).trans HBX.out, owns_grown hX2.out.g hwzg HH.out (by decide), owns_grown hX2.out.f hwzg HH.out (by decide),
              FesX.step hlt hn hg hs HC.out HCV.out hwzg (by rw [HHF.out]; exact (CycX.owned HO1.out hlg (by have := hX2.out.below.size; have := box_lt HR.out; omega)).grown hg1z) HHF.out hhz, hbz⟩
          have HCX := hide hCX
          clear hCX hhz hg1z hbz hwzg hwz
          go_wp2_with fail
          go_roundw
          case rel => exact ⟨k + 1, by omega, by go_num, HCX.out⟩
          case measure => simp [intOf]; omega
      · have hl1 : w.heap.size + 1 < w0.heap.size := box_lt HR.out
        have hr := heap_below HR.out hX2.out.below
        have r0 := cellOf hr 0
        have r1 := cellOf hr 1
        have r2 := cellOf hr 2
        have q0 := unfrozenOf hr 0
        have q1 := unfrozenOf hr 1
        have q2 := unfrozenOf hr 2
        have HRR := hide hr
        clear hr
        have hne : ¬ pb = w.heap.size + 1 := by omega
        go_wp2_with fail
        generalize hwz : World.setCell _ _ _ = wz
        have hhz := setCellOf (i := 2) (setCellOf (i := 1) (setCellOf (i := 0) HRR.out (.slice Ag gs.length cpg)) (.slice Af fs.length cpf)) (.slice Ae es.length cpe)
        rw [hwz] at hhz
        have hgz : wr.grownBy wz (some (w.heap.size + 1)) := by
          rw [← hwz]
          refine only_setCell (only_setCell (only_setCell (only_refl _ _) ?_ _) ?_ _) ?_ _
          all_goals exact .inl rfl
        have hbz : Below w.heap.size w wz := by
          rw [← hwz]
          refine Below.setCell (Below.setCell (Below.setCell (Below.to HB0.out hX2.out.below (Nat.le_refl _)) ?_ _) ?_ _) ?_ _
          all_goals (show _ ≤ w.heap.size + 1; omega)
        have hW : Wir wz wz.heap.size (.slice Ag gs.length cpg) (.slice Af fs.length cpf) (.slice Ae es.length cpe) gs fs es :=
          wir_of (owns_grown hX2.out.g hgz HRR.out (by decide)) (owns_grown hX2.out.f hgz HRR.out (by decide)) (hX2.out.e.grownx hgz (by omega))
        have z0 := cellOf hhz 0
        have z1 := cellOf hhz 1
        have z2 := cellOf hhz 2
        clear r0 r1 r2 q0 q1 q2 j0 j1 j2 hgz hwz hhz
        have HW := hide hW
        have HBZ := hide hbz
        clear hW hbz
        refine bodyPost_ret (v := .agg #[.slice Ag gs.length cpg, .slice Af fs.length cpf, .slice Ae es.length cpe]) ?_ rfl ⟨_, _, _, rfl, HW.out, HBZ.out⟩
        rw [results_cell1 rfl]
        go_simp
end Go.Proofs.Ytejjjijaojkohaa

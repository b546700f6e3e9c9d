/- Feeders and wirings in memory; the checks of a wiring: walks. -/
import Derived.Test.YtejjjijaojkohaaRows
import Derived.Test.YtejjjijaojkohaaW30
import Derived.Test.YtejjjijaojkohaaW31
import Derived.Deep.RegionHeld3
namespace Go.Proofs.Ytejjjijaojkohaa
open Go.RowKit
set_option linter.unusedVariables false
set_option linter.unusedSimpArgs false

structure Fe where
  par : Int
  gauge : Int
  fuse : Int
  n : Ne
  cs : List Cu
def Fe.z : Fe := ⟨0, 0, 0, ⟨0, 0, 0⟩, []⟩
def feC (f : Fe) (c : Value) : Nat → Value
  | 0 => .int .i64 f.par
  | 1 => .int .i64 f.gauge
  | 2 => .int .i64 f.fuse
  | 3 => c
  | 4 => .int .i64 f.n.len
  | 5 => .int .i64 f.n.drop
  | _ => .int .i64 f.n.amb
/-- The slice value v holds the feeders es, below block B. -/
def Fes (w : World) (B : Nat) (v : Value) (es : List Fe) : Prop :=
  ∃ cv : Nat → Value, Sl w B 7 v es.length (fun i j => feC (es.getD i Fe.z) (cv i) j) ∧ ∀ i, i < es.length → Cyc w B (cv i) (es.getD i Fe.z).cs
theorem Fes.below {w w' : World} {B : Nat} {v : Value} {es : List Fe} (h : Fes w B v es) (hb : Below B w w') : Fes w' B v es := by
  obtain ⟨cv, h1, h2⟩ := h
  exact ⟨cv, Sl.below h1 hb, fun i hi => Sl.below (h2 i hi) hb⟩
theorem Fes.more {w : World} {B B' : Nat} {v : Value} {es : List Fe} (h : Fes w B v es) (hB : B ≤ B') : Fes w B' v es := by
  obtain ⟨cv, h1, h2⟩ := h
  exact ⟨cv, Sl.more h1 hB, fun i hi => Sl.more (h2 i hi) hB⟩
theorem Fes.form {w : World} {B : Nat} {v : Value} {es : List Fe} (h : Fes w B v es) : ∃ A cap, v = .slice A es.length cap := by
  obtain ⟨cv, h1, _⟩ := h
  exact Sl.form h1
/-- The three slices of a wiring. -/
structure Wir (w : World) (B : Nat) (gv fv ev : Value) (gs : List Ga) (fs : List Fu) (es : List Fe) : Prop where
  g : Gas w B gv gs
  f : Fus w B fv fs
  e : Fes w B ev es
theorem Wir.below {w w' : World} {B : Nat} {gv fv ev : Value} {gs : List Ga} {fs : List Fu} {es : List Fe} (h : Wir w B gv fv ev gs fs es) (hb : Below B w w') : Wir w' B gv fv ev gs fs es :=
  ⟨Sl.below h.g hb, Sl.below h.f hb, h.e.below hb⟩
theorem Wir.more {w : World} {B B' : Nat} {gv fv ev : Value} {gs : List Ga} {fs : List Fu} {es : List Fe} (h : Wir w B gv fv ev gs fs es) (hB : B ≤ B') : Wir w B' gv fv ev gs fs es :=
  ⟨Sl.more h.g hB, Sl.more h.f hB, h.e.more hB⟩
theorem Wir.up {w w' : World} {gv fv ev : Value} {gs : List Ga} {fs : List Fu} {es : List Fe} (h : Wir w w.heap.size gv fv ev gs fs es) (hb : Below w.heap.size w w') : Wir w' w'.heap.size gv fv ev gs fs es :=
  (h.below hb).more hb.size
/-- Sizes that a statement looks at. -/
structure WSz (gs : List Ga) (fs : List Fu) (es : List Fe) : Prop where
  g : gs.length ≤ 30
  f : fs.length ≤ 30
  e : es.length ≤ 30
  c : ∀ i, i < es.length → (es.getD i Fe.z).cs.length ≤ 20

theorem feAtB {w wr : World} {B b off : Nat} {A : Option Addr} {es : List Fe} {cv : Nat → Value} {k : Nat} (hB : Below B w wr) (hA : A = some ⟨b, off, none⟩ ∧ b < B ∨ es.length = 0)
    (hc : ∀ i j, i < es.length → j < 7 → w.cell? ⟨b, off + (i * 7 + j), none⟩ = some (feC (es.getD i Fe.z) (cv i) j)) (hcy : ∀ i, i < es.length → Cyc w B (cv i) (es.getD i Fe.z).cs) (hlt : k < es.length) :
    ∃ (f : Fe) (C : Option Addr) (cap : Nat), Hid (es.getD k Fe.z = f) ∧ A = some ⟨b, off, none⟩ ∧ b < B ∧ wr.cell? ⟨b, off + k * 7, none⟩ = some (.int .i64 f.par) ∧ wr.cell? ⟨b, off + k * 7 + 1, none⟩ = some (.int .i64 f.gauge) ∧ wr.cell? ⟨b, off + k * 7 + 2, none⟩ = some (.int .i64 f.fuse) ∧ wr.cell? ⟨b, off + k * 7 + 3, none⟩ = some (.slice C f.cs.length cap) ∧
      wr.cell? ⟨b, off + k * 7 + 4, none⟩ = some (.int .i64 f.n.len) ∧ wr.cell? ⟨b, off + k * 7 + 5, none⟩ = some (.int .i64 f.n.drop) ∧ wr.cell? ⟨b, off + k * 7 + 6, none⟩ = some (.int .i64 f.n.amb) ∧ Hid (Cyc wr B (.slice C f.cs.length cap) f.cs) := by
  rcases hA with ⟨hA1, hA2⟩ | hA1
  · have hk : ∀ o, wr.cell? ⟨b, o, none⟩ = w.cell? ⟨b, o, none⟩ := fun o => hB.cell (p := ⟨b, o, none⟩) hA2
    have hy := hcy k hlt
    obtain ⟨C, cap, hv⟩ := Sl.form hy
    rw [hv] at hy
    have h3 := hc k 3 hlt (by omega)
    rw [show feC (es.getD k Fe.z) (cv k) 3 = cv k from rfl, hv] at h3
    exact ⟨_, C, cap, rfl, hA1, hA2, (hk _).trans (hc k 0 hlt (by omega)), (hk _).trans (hc k 1 hlt (by omega)), (hk _).trans (hc k 2 hlt (by omega)), (hk _).trans h3, (hk _).trans (hc k 4 hlt (by omega)), (hk _).trans (hc k 5 hlt (by omega)), (hk _).trans (hc k 6 hlt (by omega)), Sl.below hy hB⟩
  · omega

/-- A feeder of a wiring is right. -/
def feOk (gs : List Ga) (fs : List Fu) (es : List Fe) (i : Nat) : Bool :=
  fromB (es.getD i Fe.z).par (-1) (i - 1) && fromB (es.getD i Fe.z).gauge 0 (gs.length - 1) && fromB (es.getD i Fe.z).fuse 0 (fs.length - 1) && needOk (es.getD i Fe.z).n (es.getD i Fe.z).cs
def bigB (gs : List Ga) (fs : List Fu) (es : List Fe) : Bool := decide (20 < gs.length) || decide (20 < fs.length) || decide (20 < es.length)
def fesB (gs : List Ga) (fs : List Fu) (es : List Fe) : Bool := (List.range es.length).all (feOk gs fs es)
def chkErr (gs : List Ga) (fs : List Fu) (es : List Fe) : Int := if bigB gs fs es then 2 else if tableB gs then if fusB fs then if fesB gs fs es then 0 else 71 else 72 else 70
theorem fesB_all {gs : List Ga} {fs : List Fu} {es : List Fe} (h : ∀ j, j < es.length → feOk gs fs es j = true) : fesB gs fs es = true := by
  unfold fesB; rw [List.all_eq_true]; intro x hx; exact h x (by simpa using hx)
theorem fesB_get {gs : List Ga} {fs : List Fu} {es : List Fe} (h : fesB gs fs es = true) {j : Nat} (hj : j < es.length) : feOk gs fs es j = true := by
  unfold fesB at h; rw [List.all_eq_true] at h; exact h j (by simpa using hj)
theorem fesB_at {gs : List Ga} {fs : List Fu} {es : List Fe} {k : Nat} (hk : k < es.length) (h : feOk gs fs es k = false) : fesB gs fs es = false := by
  cases ht : fesB gs fs es with
  | false => rfl
  | true => rw [fesB_get ht hk] at h; cases h

/-- A wiring without an error. -/
structure WOk (gs : List Ga) (fs : List Fu) (es : List Fe) : Prop where
  g20 : gs.length ≤ 20
  f20 : fs.length ≤ 20
  e20 : es.length ≤ 20
  tab : tableB gs = true
  fus : fusB fs = true
  fes : fesB gs fs es = true
theorem chk_iff {gs : List Ga} {fs : List Fu} {es : List Fe} : chkErr gs fs es = 0 ↔ WOk gs fs es := by
  unfold chkErr
  constructor
  · intro h
    cases hb : bigB gs fs es
    · cases ht : tableB gs <;> cases hf : fusB fs <;> cases he : fesB gs fs es <;> simp [hb, ht, hf, he] at h
      simp only [bigB, Bool.or_eq_false_iff, decide_eq_false_iff_not] at hb
      exact ⟨by omega, by omega, by omega, ht, hf, he⟩
    · simp [hb] at h
  · intro h
    have hb : bigB gs fs es = false := by
      simp only [bigB, Bool.or_eq_false_iff, decide_eq_false_iff_not]
      exact ⟨⟨by have := h.g20; omega, by have := h.f20; omega⟩, by have := h.e20; omega⟩
    simp [hb, h.tab, h.fus, h.fes]
structure FeOk (gs : List Ga) (fs : List Fu) (f : Fe) (i : Nat) : Prop where
  par0 : -1 ≤ f.par
  par1 : f.par ≤ i - 1
  ga0 : 0 ≤ f.gauge
  ga1 : f.gauge ≤ gs.length - 1
  fu0 : 0 ≤ f.fuse
  fu1 : f.fuse ≤ fs.length - 1
  need : NeOk f.n f.cs
theorem WOk.at {gs : List Ga} {fs : List Fu} {es : List Fe} (h : WOk gs fs es) {i : Nat} (hi : i < es.length) {f : Fe} (hf : es.getD i Fe.z = f) : FeOk gs fs f i := by
  have h1 := fesB_get h.fes hi
  unfold feOk at h1
  rw [hf] at h1
  simp only [Bool.and_eq_true, fromB_iff] at h1
  obtain ⟨⟨⟨⟨a, b⟩, c, d⟩, e, g⟩, k⟩ := h1
  exact ⟨a, b, c, d, e, g, needOk_iff.1 k⟩

def WiAt (w : World) (b : Nat) (gv fv ev : Value) : Prop := w.heap[b]? = some (.cells #[gv, fv, ev] 63 (0, 0))
theorem wi3 {w0 w1 : World} {b : Nat} {gv fv ev : Value} (h : WiAt w0 b gv fv ev) (hB : Below w0.heap.size w0 w1) :
    w1.cell? ⟨b, 0, none⟩ = some gv ∧ w1.cell? ⟨b, 1, none⟩ = some fv ∧ w1.cell? ⟨b, 2, none⟩ = some ev ∧ Hid (Below w0.heap.size w0 w1) :=
  ⟨cellOf (box_to h hB) 0, cellOf (box_to h hB) 1, cellOf (box_to h hB) 2, hB⟩
end Go.Proofs.Ytejjjijaojkohaa
